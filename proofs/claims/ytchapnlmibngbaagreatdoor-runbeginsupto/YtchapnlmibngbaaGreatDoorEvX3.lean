/- Calls of functions that are known. -/
import Derived.Test.YtchapnlmibngbaaGreatDoorEvX2
set_option linter.all false
namespace Go.Proofs.BhE
open Go
noncomputable section

def CallPOk (P : Program) (callP : FuncId → List Value → Option Value) : Prop := ∀ f args v, callP f args = some v → PureFn P f args (.returned v)
def callOf (callP : FuncId → List Value → Option Value) : FuncId → List Value → A AEnd := fun f args => match callP f args with
  | some v => A.ret (.returned v)
  | none => A.fail
theorem callOf_eq (callP : FuncId → List Value → Option Value) : ∀ f args v, callP f args = some v → callOf callP f args = A.ret (.returned v) := by
  intro f args v h
  unfold callOf
  rw [h]
theorem callOf_ok {P : Program} {callP : FuncId → List Value → Option Value} (h : CallPOk P callP) : CallOk P (callOf callP) := by
  intro f args args' Pm ρ s w hargs
  unfold callOf
  split
  · rename_i v hv
    exact h f args v hv Pm ρ s w args' hargs
  · intro x s' hx; cases hx
def callNil : FuncId → List Value → Option Value := fun _ _ => none
theorem callNil_ok {P : Program} : CallPOk P callNil := by intro f args v h; cases h
open Classical in
/-- A function that is known on what is named. -/
def callK {α : Type} (g : Nat) (pre : α → Prop) (en : α → List Value) (F : α → Value) (rest : FuncId → List Value → Option Value) : FuncId → List Value → Option Value := fun f args =>
  if h : f = g ∧ ∃ x, pre x ∧ args = en x then some (F (Classical.choose h.2)) else rest f args
theorem callK_hit {α : Type} {g : Nat} {pre : α → Prop} {en : α → List Value} {F : α → Value} {rest : FuncId → List Value → Option Value} (inj : ∀ x y, pre x → pre y → en x = en y → F x = F y) (x : α) (hx : pre x) :
    callK g pre en F rest g (en x) = some (F x) := by
  have h : g = g ∧ ∃ y, pre y ∧ en x = en y := ⟨rfl, x, hx, rfl⟩
  unfold callK
  rw [dif_pos h]
  have hc := Classical.choose_spec h.2
  rw [inj _ _ hx hc.1 hc.2]
theorem callK_miss {α : Type} {g f : Nat} {pre : α → Prop} {en : α → List Value} {F : α → Value} {rest : FuncId → List Value → Option Value} {args : List Value} (h : f ≠ g) : callK g pre en F rest f args = rest f args := by
  unfold callK
  rw [dif_neg]
  rintro ⟨h1, _⟩
  exact h h1
theorem callK_ok {P : Program} {α : Type} {g : Nat} {pre : α → Prop} {en : α → List Value} {F : α → Value} {rest : FuncId → List Value → Option Value} (hg : ∀ x, pre x → PureFn P g (en x) (.returned (F x))) (hr : CallPOk P rest) : CallPOk P (callK g pre en F rest) := by
  intro f args v h
  unfold callK at h
  split at h
  · rename_i hc
    have hs := Classical.choose_spec hc.2
    cases h
    have := hg _ hs.1
    rw [← hs.2] at this
    have hfg : f = g := hc.1
    generalize hz : F (Classical.choose hc.2) = z at this ⊢
    clear hz
    rw [hfg]
    exact this
  · exact hr f args v h
theorem vl_inj {l m : List Value} (h : vl l = vl m) : l = m := by
  unfold vl at h
  injection h with _ h _
  injection h
theorem map_inj {α : Type} {f : α → Value} (hf : ∀ x y, f x = f y → x = y) : ∀ {l m : List α}, l.map f = m.map f → l = m
  | [], [], _ => rfl
  | [], _ :: _, h => by cases h
  | _ :: _, [], h => by cases h
  | a :: l, b :: m, h => by
    simp only [List.map_cons, List.cons.injEq] at h
    rw [hf a b h.1, map_inj hf h.2]
end
end Go.Proofs.BhE
