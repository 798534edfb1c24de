/- RunBegins: the card. -/
import Derived.Test.YtchapnlmibngbaaGreatDoorEvL08a
import Derived.Test.YtchapnlmibngbaaGreatDoorEvX8
set_option linter.all false
namespace Go.Proofs.YtchapnlmibngbaaGreatDoor.bh
open Go Go.ChangeShapes Go.WideShapes Go.ChangeAt Go.RowKit Go.Proofs.BhE
noncomputable section
set_option maxRecDepth 100000
theorem row6_0 : (Rows.runBeginsUptoRow.wf (OpenSpec.ofChange (Rows.OpenSpec.upto Rows.runBeginsSpec).bare)) = true := by kernel_rfl
theorem prog_1 : (laidOutB Tryz.pinned.checked.prog) = true := by kernel_rfl
theorem prog_2 : (mapsRowed Tryz.pinned.checked.prog) = true := by kernel_rfl
theorem row6_3 : (Tryz.f6.params.all (Tryz.pinned.checked.prog.readableRec ·)) = true := by kernel_rfl
theorem row6_4 : (namedTie Tryz.pinned.checked.prog Rows.runBeginsUptoRow.named (Rows.OpenSpec.upto Rows.runBeginsSpec).bare.vars) = true := by kernel_rfl
theorem row6_5 : ((Rows.runBeginsUptoRow.stops == [])) = true := by kernel_rfl
theorem prog_6 : ((Tryz.pinned.checked.prog.stops == [])) = true := by kernel_rfl
theorem row6_7 : ((Rows.runBeginsUptoRow.knobs == [])) = true := by kernel_rfl
theorem prog_8 : ((Tryz.pinned.checked.prog.stopKnobs == [])) = true := by kernel_rfl
theorem row6_9 : ((Rows.runBeginsUptoRow.inPlace == Tryz.pinned.checked.prog.inPlace 6)) = true := by kernel_rfl
theorem row6_10 : ((Rows.runBeginsUptoRow.unfollowed == Tryz.pinned.checked.prog.unfollowed 6)) = true := by kernel_rfl
theorem row6_11 : ((Rows.runBeginsUptoRow.recurses == Tryz.pinned.checked.prog.recurses 6)) = true := by kernel_rfl
theorem row6_12 : ((Rows.runBeginsUptoRow.named == Tryz.pinned.checked.prog.varsNamed 6)) = true := by kernel_rfl
theorem row6_13 : ((Rows.runBeginsUptoRow.maps == (Tryz.f6.params.toList ++ (Rows.OpenSpec.upto Rows.runBeginsSpec).bare.plain.varTypes Tryz.pinned.checked.prog).any (Tryz.pinned.checked.prog.mapsRec ·))) = true := by kernel_rfl
theorem row6_14 : ((Rows.runBeginsUptoRow.ifaces == (Tryz.f6.params.toList ++ (Rows.OpenSpec.upto Rows.runBeginsSpec).bare.plain.varTypes Tryz.pinned.checked.prog).any (Tryz.pinned.checked.prog.ifacesRec ·))) = true := by kernel_rfl
theorem row6_15 : ((Rows.runBeginsUptoRow.mapsOut == Tryz.pinned.checked.prog.mapsAmong Tryz.f6.resultTypes.toList)) = true := by kernel_rfl
theorem row6_16 : ((Rows.runBeginsUptoRow.loops == (Tryz.f6.params.toList ++ (Rows.OpenSpec.upto Rows.runBeginsSpec).bare.plain.varTypes Tryz.pinned.checked.prog).any (Tryz.pinned.checked.prog.loopsFrom ·))) = true := by kernel_rfl
theorem row6_17 : ((Rows.runBeginsUptoRow.wideKeys == (Tryz.f6.params.toList ++ (Rows.OpenSpec.upto Rows.runBeginsSpec).bare.plain.varTypes Tryz.pinned.checked.prog ++ Tryz.f6.resultTypes.toList).any (Tryz.pinned.checked.prog.wideKeysFrom ·))) = true := by kernel_rfl
theorem row6_18 : ((Rows.OpenSpec.upto Rows.runBeginsSpec).bare.vars.all (Tryz.pinned.checked.prog.varReadable ·)) = true := by kernel_rfl
theorem row6_19 : (Tryz.f6.resultTypes.all (fun t => Tryz.pinned.checked.prog.readableRec t && decide (t < Tryz.pinned.checked.prog.types.size))) = true := by kernel_rfl
theorem row6_20 : ((Rows.runBeginsUptoRow.ifacesOut == Tryz.f6.resultTypes.toList.any (Tryz.pinned.checked.prog.ifacesRec ·))) = true := by kernel_rfl
theorem row6_21 : ((Rows.runBeginsUptoRow.loopsOut == Tryz.f6.resultTypes.toList.any (Tryz.pinned.checked.prog.loopsFrom ·))) = true := by kernel_rfl
theorem prog_22 : ((Rows.runBeginsUptoRow.plainKeys == Tryz.pinned.checked.prog.plainKeys)) = true := by kernel_rfl
theorem row6_23 : (Rows.runBeginsUptoRow.shortTexts.isNone) = true := by kernel_rfl
theorem prog_24 : (Tryz.pinned.checked.prog.stopsHeard) = true := by kernel_rfl
theorem prog_25 : (Tryz.pinned.checked.prog.mayEnter) = true := by kernel_rfl
theorem prog_26 : ((Rows.runBeginsUptoRow.lifted == Tryz.pinned.checked.prog.liftsFinal)) = true := by kernel_rfl
theorem prog_27 : ((Tryz.pinned.checked.prog.make == some Rows.runBeginsUptoRow.make)) = true := by kernel_rfl
theorem row6_28 : ((Rows.runBeginsUptoRow.kinds == (if Rows.runBeginsUptoRow.domain.isEmpty then [] else Tryz.f6.params.toList.map fun t => match Tryz.pinned.checked.prog.underlying t with | some (.int k) => some k | _ => none))) = true := by kernel_rfl
theorem row6_29 : ((Rows.runBeginsUptoRow.pinned == Rows.runBeginsUptoRow.pinnedBy)) = true := by kernel_rfl
theorem row6_30 : ((Rows.runBeginsUptoRow.veiled == (Tryz.f6.params.toList ++ (Rows.OpenSpec.upto Rows.runBeginsSpec).bare.plain.varTypes Tryz.pinned.checked.prog ++ Tryz.f6.resultTypes.toList).any (Tryz.pinned.checked.prog.veiledRec ·))) = true := by kernel_rfl
theorem row6_31 : (Rows.runBeginsUptoRow.veiledFits Tryz.pinned.checked.prog Tryz.f6.params.toList (Tryz.f6.params.toList ++ (Rows.OpenSpec.upto Rows.runBeginsSpec).bare.plain.varTypes Tryz.pinned.checked.prog ++ Tryz.f6.resultTypes.toList)) = true := by kernel_rfl
theorem named6 : Tryz.pinned.checked.prog.funcNamed Rows.runBeginsUptoRow.func = some 6 := by kernel_rfl
theorem joined6 : joinedFacts Tryz.pinned.checked.prog 6 Tryz.f6 (Rows.OpenSpec.upto Rows.runBeginsSpec).bare Rows.runBeginsUptoRow = true :=
  joined_of row6_0 prog_1 prog_2 row6_3 row6_4 row6_5 prog_6 row6_7 prog_8 row6_9 row6_10 row6_11 row6_12 row6_13 row6_14 row6_15 row6_16 row6_17 row6_18 row6_19 row6_20 row6_21 prog_22 row6_23 prog_24 prog_25 prog_26 prog_27 row6_28 row6_29 row6_30 row6_31
theorem instance6 : Tryz.f6.isInstance Tryz.pinned.checked.prog Rows.runBeginsUptoRow.origin Rows.runBeginsUptoRow.targs := of_decide_eq_true (by kernel_rfl)
theorem wrapper6 : Tryz.f6.isWrapper Tryz.pinned.checked.prog Rows.runBeginsUptoRow.wrapper Rows.runBeginsUptoRow.mainSum := by
  unfold Func.isWrapper; first | (rw [if_pos (by decide +kernel)]; kernel_rfl) | (rw [if_neg (by decide +kernel)]; exact ⟨rfl, rfl⟩)
theorem saidUpto : Rows.RunBeginsUptoSaid :=
  OpenClaim.holds_of_cond 6 Tryz.f6 rfl rfl rfl rfl rfl rfl rfl ⟨rfl, rfl, rfl, rfl, rfl⟩ rfl rfl rfl rfl rfl named6 Tryz.func6 joined6 instance6 wrapper6
    (fun os started H enc _ F => by rw [OpenClaim.pre_eq_preRow]; exact liftedUpto os started H enc F)

theorem looks0 : true = Tryz.pinned.checked.prog.looks [] := by kernel_rfl
theorem plain (f : FuncId) (fn : Func) (hf : Tryz.pinned.checked.prog.funcNamed "billhook/billhooklaw08.RunBegins" = some f) (hfn : Tryz.pinned.checked.prog.funcs[f]? = some fn) :
    true = Tryz.pinned.checked.prog.looks [] ∧ ∀ (j : Nat) t, fn.params[j]? = some t → Tryz.pinned.checked.prog.wantsStandIn t = false := by
  obtain rfl : f = 6 := Option.some.inj ((show Tryz.prog.funcNamed "billhook/billhooklaw08.RunBegins" = some 6 by kernel_rfl).symm.trans hf) |>.symm
  obtain rfl : fn = Tryz.f6 := (Option.some.inj (Tryz.func6.symm.trans hfn)).symm
  refine ⟨looks0, fun j t ht => ?_⟩
  rw [Tryz.params6] at ht
  have hm : t ∈ ([34, 34, 4, 5] : List Nat) := by simpa using Array.mem_of_getElem? ht
  have hall : ([34, 34, 4, 5] : List Nat).all (fun t => !Tryz.prog.wantsStandIn t) = true := by kernel_rfl
  have := List.all_eq_true.1 hall t hm
  show Tryz.prog.wantsStandIn t = false
  simpa using this
end
end Go.Proofs.YtchapnlmibngbaaGreatDoor.bh
