/- Proved: billhooklaw08.RunBegins answers true for every two lists of lists of integers, every flag and every byte, and its arguments read afterwards as before. Conditions: the arguments hold together at most 1048576 values and letters; the five package-level variables that the row lists hold what the text of the program lays in them. -/
import Derived.Test.YtchapnlmibngbaaGreatDoorEvL08b
set_option linter.all false
namespace Go.Proofs.YtchapnlmibngbaaGreatDoor.bh
open Go Go.ChangeShapes Go.WideShapes Go.ChangeAt Go.RowKit Go.Proofs.BhE
noncomputable section
set_option maxRecDepth 100000
theorem byText6 : Rows.runBeginsUptoRow.wfByText (Rows.OpenSpec.upto Rows.runBeginsSpec) = true := by kernel_rfl
theorem mainIs0 : Tryz.pinned.checked.prog.mainIs = some ((true, "77db24d9ddd5b219bc8265aab260f8334bcd82f2289af4ee8a059459ea3226b2").fst, (true, "77db24d9ddd5b219bc8265aab260f8334bcd82f2289af4ee8a059459ea3226b2").snd.toList) := by kernel_rfl
theorem goes6 : false = Rows.runBeginsUptoRow.goesBy Tryz.pinned.checked.prog := by kernel_rfl
theorem cardUpto : Rows.RunBeginsUptoCardSaid :=
  Claim7.holds_tied_plain_at .later [] _ _ _ _ saidUpto (fun _ h => by cases h) byText6 (fun _ h => by cases h) runBeginsUpto_row_tie rfl ⟨rfl, rfl⟩ mainIs0 rfl plain goes6
end
end Go.Proofs.YtchapnlmibngbaaGreatDoor.bh
