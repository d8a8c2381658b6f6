/- Part 41 of the proof that identitylaw12.SearchChecks returns true for every data that it may be called with: proof: the package variables hold what the program lays; nothing else is asked. -/
import Derived.Test.YtbkkchhimhlhcaaGreatDoorSrk40
import Derived.Test.YtbkkchhimhlhcaaGreatDoorRows
import Derived.Lib.LaidCaseMet
import Derived.Lib.LaidIn
import Derived.Stop.LaidErr
set_option linter.unusedVariables false
set_option linter.unusedSimpArgs false
set_option maxRecDepth 100000
set_option maxHeartbeats 16000000
/- What the row's listed variables give the walks. -/
namespace Go.Proofs.YtbkkchhimhlhcaaGreatDoor
open Go.RowKit Go.Sort Go.Shelf
theorem pow_eq:(Rows.laid_internal_strconv_uint64pow10:DataW Unit)=Lib.tabData .u64 Lib.pow10Tab:=by kernel_rfl
theorem acc_eq:(Rows.laid_unicode_utf8_acceptRanges:DataW Unit)=Lib.acceptData:=by kernel_rfl
theorem first_eq:Rows.laid_unicode_utf8_first=Lib.firstData:=by kernel_rfl
theorem case_eq:Rows.laid_unicode_CaseRanges=Lib.caseData:=by kernel_rfl
theorem star : "*" ++ "errors.errorString" = "*errors.errorString" := by decide
theorem rowErr (u : TypeId) (h : Tryz.prog.typeName? 3 u = some "*errors.errorString") : u = 342 :=
 typeName_ptr_named (nm := "errors.errorString") (by rw [star]; kernel_rfl) (by kernel_rfl) (by decide) u (by rw [star]; exact h)
theorem gPow : Tryz.prog.globalNamed "internal/strconv.uint64pow10" = some 6 := by kernel_rfl
theorem env_max {W:World} (hsh:W.ShapedOpen Tryz.prog):∃m:Int,W.cell? ⟨0,0,none⟩=some (.int .i64 m):=Tryz.laysM219.s1_3 W hsh
theorem env_case {W : World} {l : List (String × DataW Unit)} (h : laidMet Tryz.prog l W) (hm : ("unicode.CaseRanges", Lib.caseData) ∈ l) : Lib.CaseVar 3 Lib.caseA W :=
 caseVar_of_reads (ρ:=Tryz.lays203_ren) { Tryz.lays203 with } (by kernel_rfl) ⟨by kernel_rfl,by kernel_rfl,by kernel_rfl,by kernel_rfl,by kernel_rfl,by kernel_rfl⟩ (Lib.laidMet.reads h hm)
theorem env_utf {W : World} {l : List (String × DataW Unit)} (h : laidMet Tryz.prog l W) (h1 : ("unicode/utf8.first", Lib.firstData) ∈ l) (h2 : ("unicode/utf8.acceptRanges", Lib.acceptData) ∈ l) : Lib.Utf8Tabs 4 5 W :=
 utf8Tabs_of_reads (ρ:=Tryz.lays260_ren) { Tryz.lays260 with } ⟨by kernel_rfl,by kernel_rfl,by kernel_rfl,by kernel_rfl,by kernel_rfl,by kernel_rfl,by kernel_rfl⟩ (Lib.laidMet.reads h h1) (Lib.laidMet.reads h h2)
theorem env_pow {W : World} {rest : List (String × DataW Unit)} (h : laidMet Tryz.prog (("internal/strconv.uint64pow10", Lib.tabData .u64 Lib.pow10Tab) :: rest) W) : Lib.TabIs Tryz.prog W "internal/strconv.uint64pow10" .u64 Lib.pow10Tab :=
 Lib.tabIs_of_head (n:=20) (g:=6) (t:=360) (e:=263) gPow (by kernel_rfl) (by kernel_rfl) (by kernel_rfl) (by kernel_rfl) (by kernel_rfl) h
theorem env_err {W : World} {rest : List (String × DataW Unit)} {text : List UInt8} (h : laidMet Tryz.prog (("strconv.ErrRange", .iface "*errors.errorString" (.ptr (.agg [.lit (.string text)]))) :: rest) W) : ∃ tp p, W.var? Tryz.prog "strconv.ErrRange" = some #[.iface tp p] := by
 obtain ⟨a0,t0,hv0,_⟩:=laid_sentinel (g:=2) (ti:=241) (tp:=342) (te:=344) (ts:=9) h (by kernel_rfl) (by kernel_rfl) Tryz.underlying241 rowErr Tryz.underlying342 Tryz.underlying344 rfl rfl Tryz.underlying9 (by kernel_rfl) (by kernel_rfl)
 exact ⟨_,_,hv0⟩
def laidL : List (String × DataW Unit) := [("math/bits.deBruijn32tab", Rows.laid_math_bits_deBruijn32tab), ("math/bits.deBruijn64tab", Rows.laid_math_bits_deBruijn64tab), ("internal/strconv.uint64pow10", Lib.tabData .u64 Lib.pow10Tab), ("unicode/utf8.acceptRanges", Lib.acceptData), ("strconv.ErrRange", Rows.laid_strconv_ErrRange), ("strconv.ErrSyntax", Rows.laid_strconv_ErrSyntax), ("unicode.CaseRanges", Lib.caseData), ("unicode/utf8.first", Lib.firstData)]
theorem env_of {W:World} (h:laidMet Tryz.prog laidL W) (hsh:W.ShapedOpen Tryz.prog):Env W∧EnvU W:=by
 refine ⟨⟨env_max hsh,env_pow (Go.laidMet.tail (Go.laidMet.tail h)),env_err (Go.laidMet.tail (Go.laidMet.tail (Go.laidMet.tail (Go.laidMet.tail h))))⟩,env_case h ?_,env_utf h ?_ ?_⟩
 ·exact .tail _ (.tail _ (.tail _ (.tail _ (.tail _ (.tail _ (.head _))))))
 ·exact .tail _ (.tail _ (.tail _ (.tail _ (.tail _ (.tail _ (.tail _ (.head _)))))))
 ·exact .tail _ (.tail _ (.tail _ (.head _)))
end Go.Proofs.YtbkkchhimhlhcaaGreatDoor
