/- A copy of a settled slice without elements. -/
import Derived.Test.YtchapnlmibngbaaGreatDoorEvV
set_option linter.all false
namespace Go.Proofs.BhE
open Go
noncomputable section
def cloneF : List Value → Option Value
  | [.func (.yield _) items _] => match items.toList with
    | [] => some (.func (.yield 1) #[] #[])
    | _ :: _ => none
  | _ => none
theorem clone_ok {P : Program} {f : FuncId} (h1 : PureFn P f [.slice none 0 0] (.returned (.slice none 0 0))) (h2 : PureFn P f [.func (.yield 4) #[] #[]] (.returned (.func (.yield 1) #[] #[]))) :
    ∀ args v, cloneF args = some v → PureFn P f args (.returned v) := by
  intro args v h
  unfold cloneF at h
  split at h
  case h_2 => cases h
  rename_i k items fc
  split at h
  case h_2 => cases h
  rename_i hi
  cases h
  have hi : items = #[] := by cases items; simp at hi; rw [hi]
  subst hi
  intro Pm ρ s w args' hargs
  obtain ⟨l⟩ := args'
  cases hargs with
  | @cons _ v' _ l' hv ht =>
  cases ht
  have key : ∀ {a : Option Addr} {cap : Nat}, v' = .slice a 0 cap → (a = none → cap = 0) → SimCall P Pm ρ s w (A.ret (.returned (.func (.yield 1) #[] #[]))) f ⟨[v']⟩ := by
    rintro a cap rfl hc
    cases a with
    | none =>
      obtain rfl := hc rfl
      intro x s' hx hp
      cases hx
      refine (h1 Pm ρ s w #[.slice none 0 0] (.cons .snil .nil) (.returned (.slice none 0 0)) s rfl hp).mono ?_
      rintro e w' ⟨ρ', st, her⟩
      refine ⟨ρ', st, ?_⟩
      cases her with
      | returned hr =>
        cases hr
        exact .returned (.listz (fun _ => rfl) (fun _ => rfl) (fun h => absurd h (by decide)))
    | some a => exact h2 Pm ρ s w #[.slice (some a) 0 cap] (.cons (.listz (fun h => by cases h) (fun h => by cases h) (fun _ h => by cases h)) .nil)
  cases hv with
  | listz _ h3 _ => exact key rfl h3
  | list _ _ _ h4 _ _ => exact key rfl (fun h => by cases h)
end
end Go.Proofs.BhE
