/- Closed calls, once and for all: the operations and signs. -/
import Derived.Test.YtchapnlmibngbaaGreatDoorEvS08
set_option linter.all false
open Go Go.Proofs Go.Proofs.BhE
namespace Go.Proofs.BhE.T
set_option maxRecDepth 1000000
theorem c1 (f : Nat) (h1 : ansOf [.slice none 0 0] ((acall C orcNil 100000 60 f [.slice none 0 0]).run AS.empty) = some (.slice none 0 0)) (h2 : ansOf [.func (.yield 4) #[] #[]] ((acall C orcNil 100000 60 f [.func (.yield 4) #[] #[]]).run AS.empty) = some (.func (.yield 1) #[] #[])) :
    ∀ args v, cloneF args = some v → PureFn Tryz.prog f args (.returned v) := clone_ok (ansOf_ok C_ok orcNil_ok mixed h1) (ansOf_ok C_ok orcNil_ok mixed h2)
noncomputable def orcC : FuncId → List Value → Option (A AEnd) := orcFn 72 cloneF (orcFn 73 cloneF (orcFn 95 cloneF orcNil))
theorem orcC_ok : OrcOk Tryz.prog orcC := orcFn_ok (orcFn_ok (orcFn_ok orcNil_ok (c1 95 (by kernel_rfl) (by kernel_rfl))) (c1 73 (by kernel_rfl) (by kernel_rfl))) (c1 72 (by kernel_rfl) (by kernel_rfl))
def v0 : Value := (.func (.yield 0) #[(.agg #[(.string ⟨#[124, 124]⟩), (.int .i64 1), (.func (.func 272) #[] #[])]), (.agg #[(.string ⟨#[38, 38]⟩), (.int .i64 2), (.func (.func 273) #[] #[])]), (.agg #[(.string ⟨#[124]⟩), (.int .i64 3), (.func (.func 274) #[] #[])]), (.agg #[(.string ⟨#[94]⟩), (.int .i64 4), (.func (.func 275) #[] #[])]), (.agg #[(.string ⟨#[38]⟩), (.int .i64 5), (.func (.func 276) #[] #[])]), (.agg #[(.string ⟨#[61, 61]⟩), (.int .i64 6), (.func (.func 243) #[] #[])]), (.agg #[(.string ⟨#[33, 61]⟩), (.int .i64 6), (.func (.func 277) #[] #[])]), (.agg #[(.string ⟨#[60]⟩), (.int .i64 7), (.func (.func 278) #[] #[])]), (.agg #[(.string ⟨#[60, 61]⟩), (.int .i64 7), (.func (.func 279) #[] #[])]), (.agg #[(.string ⟨#[62]⟩), (.int .i64 7), (.func (.func 280) #[] #[])]), (.agg #[(.string ⟨#[62, 61]⟩), (.int .i64 7), (.func (.func 281) #[] #[])]), (.agg #[(.string ⟨#[60, 60]⟩), (.int .i64 8), (.func (.func 282) #[] #[])]), (.agg #[(.string ⟨#[62, 62]⟩), (.int .i64 8), (.func (.func 283) #[] #[])]), (.agg #[(.string ⟨#[43]⟩), (.int .i64 9), (.func (.func 284) #[] #[])]), (.agg #[(.string ⟨#[45]⟩), (.int .i64 9), (.func (.func 285) #[] #[])]), (.agg #[(.string ⟨#[42]⟩), (.int .i64 10), (.func (.func 286) #[] #[])]), (.agg #[(.string ⟨#[47]⟩), (.int .i64 10), (.func (.func 287) #[] #[])]), (.agg #[(.string ⟨#[37]⟩), (.int .i64 10), (.func (.func 288) #[] #[])])] #[])
theorem e0 : PureFn Tryz.prog 248 [] (.returned v0) := ansOf_ok C_ok orcC_ok mixed (loops := 100000) (n := 60) (by kernel_rfl)
def t1_248 : List (List Value × Value) := [([], v0)]
theorem t1_248_ok : ∀ e ∈ t1_248, PureFn Tryz.prog 248 e.1 (.returned e.2) := List.forall_mem_cons.2 ⟨e0, List.forall_mem_nil _⟩
noncomputable def orc1_248 : FuncId → List Value → Option (A AEnd) := orcFn 248 (tabF t1_248) orcC
theorem orc1_248_ok : OrcOk Tryz.prog orc1_248 := orcFn_ok orcC_ok (tabF_spec t1_248_ok)
def v1 : Value := (.func (.yield 0) #[(.string ⟨#[124, 124]⟩), (.string ⟨#[38, 38]⟩), (.string ⟨#[61, 61]⟩), (.string ⟨#[33, 61]⟩), (.string ⟨#[60, 61]⟩), (.string ⟨#[62, 61]⟩), (.string ⟨#[60, 60]⟩), (.string ⟨#[62, 62]⟩), (.string ⟨#[124]⟩), (.string ⟨#[94]⟩), (.string ⟨#[38]⟩), (.string ⟨#[60]⟩), (.string ⟨#[62]⟩), (.string ⟨#[43]⟩), (.string ⟨#[45]⟩), (.string ⟨#[42]⟩), (.string ⟨#[47]⟩), (.string ⟨#[37]⟩), (.string ⟨#[126]⟩), (.string ⟨#[33]⟩), (.string ⟨#[40]⟩), (.string ⟨#[41]⟩), (.string ⟨#[91]⟩), (.string ⟨#[93]⟩), (.string ⟨#[123]⟩), (.string ⟨#[125]⟩), (.string ⟨#[44]⟩), (.string ⟨#[59]⟩), (.string ⟨#[61]⟩)] #[])
theorem e1 : PureFn Tryz.prog 188 [] (.returned v1) := ansOf_ok C_ok orc1_248_ok mixed (loops := 100000) (n := 60) (by kernel_rfl)
def t2_188 : List (List Value × Value) := [([], v1)]
theorem t2_188_ok : ∀ e ∈ t2_188, PureFn Tryz.prog 188 e.1 (.returned e.2) := List.forall_mem_cons.2 ⟨e1, List.forall_mem_nil _⟩
noncomputable def orc2_188 : FuncId → List Value → Option (A AEnd) := orcFn 188 (tabF t2_188) orc1_248
theorem orc2_188_ok : OrcOk Tryz.prog orc2_188 := orcFn_ok orc1_248_ok (tabF_spec t2_188_ok)
theorem e2 : PureFn Tryz.prog 219 [(.string ⟨#[124,124]⟩)] (.returned (.int .i64 1)) := ansOf_ok C_ok orc2_188_ok mixed (loops := 100000) (n := 60) (by kernel_rfl)
theorem e3 : PureFn Tryz.prog 219 [(.string ⟨#[38,38]⟩)] (.returned (.int .i64 2)) := ansOf_ok C_ok orc2_188_ok mixed (loops := 100000) (n := 60) (by kernel_rfl)
theorem e4 : PureFn Tryz.prog 219 [(.string ⟨#[124]⟩)] (.returned (.int .i64 3)) := ansOf_ok C_ok orc2_188_ok mixed (loops := 100000) (n := 60) (by kernel_rfl)
theorem e5 : PureFn Tryz.prog 219 [(.string ⟨#[94]⟩)] (.returned (.int .i64 4)) := ansOf_ok C_ok orc2_188_ok mixed (loops := 100000) (n := 60) (by kernel_rfl)
theorem e6 : PureFn Tryz.prog 219 [(.string ⟨#[38]⟩)] (.returned (.int .i64 5)) := ansOf_ok C_ok orc2_188_ok mixed (loops := 100000) (n := 60) (by kernel_rfl)
theorem e7 : PureFn Tryz.prog 219 [(.string ⟨#[61,61]⟩)] (.returned (.int .i64 6)) := ansOf_ok C_ok orc2_188_ok mixed (loops := 100000) (n := 60) (by kernel_rfl)
theorem e8 : PureFn Tryz.prog 219 [(.string ⟨#[33,61]⟩)] (.returned (.int .i64 6)) := ansOf_ok C_ok orc2_188_ok mixed (loops := 100000) (n := 60) (by kernel_rfl)
theorem e9 : PureFn Tryz.prog 219 [(.string ⟨#[60]⟩)] (.returned (.int .i64 7)) := ansOf_ok C_ok orc2_188_ok mixed (loops := 100000) (n := 60) (by kernel_rfl)
theorem e10 : PureFn Tryz.prog 219 [(.string ⟨#[60,61]⟩)] (.returned (.int .i64 7)) := ansOf_ok C_ok orc2_188_ok mixed (loops := 100000) (n := 60) (by kernel_rfl)
theorem e11 : PureFn Tryz.prog 219 [(.string ⟨#[62]⟩)] (.returned (.int .i64 7)) := ansOf_ok C_ok orc2_188_ok mixed (loops := 100000) (n := 60) (by kernel_rfl)
theorem e12 : PureFn Tryz.prog 219 [(.string ⟨#[62,61]⟩)] (.returned (.int .i64 7)) := ansOf_ok C_ok orc2_188_ok mixed (loops := 100000) (n := 60) (by kernel_rfl)
theorem e13 : PureFn Tryz.prog 219 [(.string ⟨#[60,60]⟩)] (.returned (.int .i64 8)) := ansOf_ok C_ok orc2_188_ok mixed (loops := 100000) (n := 60) (by kernel_rfl)
theorem e14 : PureFn Tryz.prog 219 [(.string ⟨#[62,62]⟩)] (.returned (.int .i64 8)) := ansOf_ok C_ok orc2_188_ok mixed (loops := 100000) (n := 60) (by kernel_rfl)
theorem e15 : PureFn Tryz.prog 219 [(.string ⟨#[43]⟩)] (.returned (.int .i64 9)) := ansOf_ok C_ok orc2_188_ok mixed (loops := 100000) (n := 60) (by kernel_rfl)
theorem e16 : PureFn Tryz.prog 219 [(.string ⟨#[45]⟩)] (.returned (.int .i64 9)) := ansOf_ok C_ok orc2_188_ok mixed (loops := 100000) (n := 60) (by kernel_rfl)
theorem e17 : PureFn Tryz.prog 219 [(.string ⟨#[42]⟩)] (.returned (.int .i64 10)) := ansOf_ok C_ok orc2_188_ok mixed (loops := 100000) (n := 60) (by kernel_rfl)
theorem e18 : PureFn Tryz.prog 219 [(.string ⟨#[47]⟩)] (.returned (.int .i64 10)) := ansOf_ok C_ok orc2_188_ok mixed (loops := 100000) (n := 60) (by kernel_rfl)
theorem e19 : PureFn Tryz.prog 219 [(.string ⟨#[37]⟩)] (.returned (.int .i64 10)) := ansOf_ok C_ok orc2_188_ok mixed (loops := 100000) (n := 60) (by kernel_rfl)
theorem e20 : PureFn Tryz.prog 219 [(.string ⟨#[126]⟩)] (.returned (.int .i64 0)) := ansOf_ok C_ok orc2_188_ok mixed (loops := 100000) (n := 60) (by kernel_rfl)
theorem e21 : PureFn Tryz.prog 219 [(.string ⟨#[33]⟩)] (.returned (.int .i64 0)) := ansOf_ok C_ok orc2_188_ok mixed (loops := 100000) (n := 60) (by kernel_rfl)
theorem e22 : PureFn Tryz.prog 219 [(.string ⟨#[40]⟩)] (.returned (.int .i64 0)) := ansOf_ok C_ok orc2_188_ok mixed (loops := 100000) (n := 60) (by kernel_rfl)
theorem e23 : PureFn Tryz.prog 219 [(.string ⟨#[41]⟩)] (.returned (.int .i64 0)) := ansOf_ok C_ok orc2_188_ok mixed (loops := 100000) (n := 60) (by kernel_rfl)
theorem e24 : PureFn Tryz.prog 219 [(.string ⟨#[91]⟩)] (.returned (.int .i64 0)) := ansOf_ok C_ok orc2_188_ok mixed (loops := 100000) (n := 60) (by kernel_rfl)
theorem e25 : PureFn Tryz.prog 219 [(.string ⟨#[93]⟩)] (.returned (.int .i64 0)) := ansOf_ok C_ok orc2_188_ok mixed (loops := 100000) (n := 60) (by kernel_rfl)
theorem e26 : PureFn Tryz.prog 219 [(.string ⟨#[123]⟩)] (.returned (.int .i64 0)) := ansOf_ok C_ok orc2_188_ok mixed (loops := 100000) (n := 60) (by kernel_rfl)
theorem e27 : PureFn Tryz.prog 219 [(.string ⟨#[125]⟩)] (.returned (.int .i64 0)) := ansOf_ok C_ok orc2_188_ok mixed (loops := 100000) (n := 60) (by kernel_rfl)
theorem e28 : PureFn Tryz.prog 219 [(.string ⟨#[44]⟩)] (.returned (.int .i64 0)) := ansOf_ok C_ok orc2_188_ok mixed (loops := 100000) (n := 60) (by kernel_rfl)
theorem e29 : PureFn Tryz.prog 219 [(.string ⟨#[59]⟩)] (.returned (.int .i64 0)) := ansOf_ok C_ok orc2_188_ok mixed (loops := 100000) (n := 60) (by kernel_rfl)
theorem e30 : PureFn Tryz.prog 219 [(.string ⟨#[61]⟩)] (.returned (.int .i64 0)) := ansOf_ok C_ok orc2_188_ok mixed (loops := 100000) (n := 60) (by kernel_rfl)
def t3_219 : List (List Value × Value) := [([(.string ⟨#[124,124]⟩)], (.int .i64 1)), ([(.string ⟨#[38,38]⟩)], (.int .i64 2)), ([(.string ⟨#[124]⟩)], (.int .i64 3)), ([(.string ⟨#[94]⟩)], (.int .i64 4)), ([(.string ⟨#[38]⟩)], (.int .i64 5)), ([(.string ⟨#[61,61]⟩)], (.int .i64 6)), ([(.string ⟨#[33,61]⟩)], (.int .i64 6)), ([(.string ⟨#[60]⟩)], (.int .i64 7)), ([(.string ⟨#[60,61]⟩)], (.int .i64 7)), ([(.string ⟨#[62]⟩)], (.int .i64 7)), ([(.string ⟨#[62,61]⟩)], (.int .i64 7)), ([(.string ⟨#[60,60]⟩)], (.int .i64 8)), ([(.string ⟨#[62,62]⟩)], (.int .i64 8)), ([(.string ⟨#[43]⟩)], (.int .i64 9)), ([(.string ⟨#[45]⟩)], (.int .i64 9)), ([(.string ⟨#[42]⟩)], (.int .i64 10)), ([(.string ⟨#[47]⟩)], (.int .i64 10)), ([(.string ⟨#[37]⟩)], (.int .i64 10)), ([(.string ⟨#[126]⟩)], (.int .i64 0)), ([(.string ⟨#[33]⟩)], (.int .i64 0)), ([(.string ⟨#[40]⟩)], (.int .i64 0)), ([(.string ⟨#[41]⟩)], (.int .i64 0)), ([(.string ⟨#[91]⟩)], (.int .i64 0)), ([(.string ⟨#[93]⟩)], (.int .i64 0)), ([(.string ⟨#[123]⟩)], (.int .i64 0)), ([(.string ⟨#[125]⟩)], (.int .i64 0)), ([(.string ⟨#[44]⟩)], (.int .i64 0)), ([(.string ⟨#[59]⟩)], (.int .i64 0)), ([(.string ⟨#[61]⟩)], (.int .i64 0))]
theorem t3_219_ok : ∀ e ∈ t3_219, PureFn Tryz.prog 219 e.1 (.returned e.2) := List.forall_mem_cons.2 ⟨e2, List.forall_mem_cons.2 ⟨e3, List.forall_mem_cons.2 ⟨e4, List.forall_mem_cons.2 ⟨e5, List.forall_mem_cons.2 ⟨e6, List.forall_mem_cons.2 ⟨e7, List.forall_mem_cons.2 ⟨e8, List.forall_mem_cons.2 ⟨e9, List.forall_mem_cons.2 ⟨e10, List.forall_mem_cons.2 ⟨e11, List.forall_mem_cons.2 ⟨e12, List.forall_mem_cons.2 ⟨e13, List.forall_mem_cons.2 ⟨e14, List.forall_mem_cons.2 ⟨e15, List.forall_mem_cons.2 ⟨e16, List.forall_mem_cons.2 ⟨e17, List.forall_mem_cons.2 ⟨e18, List.forall_mem_cons.2 ⟨e19, List.forall_mem_cons.2 ⟨e20, List.forall_mem_cons.2 ⟨e21, List.forall_mem_cons.2 ⟨e22, List.forall_mem_cons.2 ⟨e23, List.forall_mem_cons.2 ⟨e24, List.forall_mem_cons.2 ⟨e25, List.forall_mem_cons.2 ⟨e26, List.forall_mem_cons.2 ⟨e27, List.forall_mem_cons.2 ⟨e28, List.forall_mem_cons.2 ⟨e29, List.forall_mem_cons.2 ⟨e30, List.forall_mem_nil _⟩⟩⟩⟩⟩⟩⟩⟩⟩⟩⟩⟩⟩⟩⟩⟩⟩⟩⟩⟩⟩⟩⟩⟩⟩⟩⟩⟩⟩
noncomputable def orc3_219 : FuncId → List Value → Option (A AEnd) := orcFn 219 (tabF t3_219) orc2_188
theorem orc3_219_ok : OrcOk Tryz.prog orc3_219 := orcFn_ok orc2_188_ok (tabF_spec t3_219_ok)
noncomputable def orcA : FuncId → List Value → Option (A AEnd) := orc3_219
theorem orcA_ok : OrcOk Tryz.prog orcA := orc3_219_ok
end Go.Proofs.BhE.T
