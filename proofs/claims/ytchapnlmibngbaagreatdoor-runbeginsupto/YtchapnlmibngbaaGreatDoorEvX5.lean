/- Settled slices by names: elements, parts. -/
import Derived.Test.YtchapnlmibngbaaGreatDoorEvX4
import Derived.IntWalk
set_option linter.all false
namespace Go.Proofs.BhE
open Go
noncomputable section

/-- A type whose values are one cell, not a struct of one field. -/
structure Scal (C : Ctx) (e : TypeId) : Prop where
  und : ∃ d, C.und e = some d ∧ isAggD d = false
  inf : ∃ i, C.inf e = some i ∧ i.size = 1
def afptr (v : Value) : Value := .func (.method "") #[v] #[]
theorem idx_scal {C : Ctx} {t e : TypeId} (ht : C.und t = some (.slice e)) (he : Scal C e) {k : IntKind} {l : List Value} {i : Nat} {v : Value} (hv : l[i]? = some v) (hc : v.cells = #[v]) : aindexAddr C t (vl l) (.int k i) = some (afptr v) := by
  obtain ⟨inf, h1, h2⟩ := he.inf
  simp only [aindexAddr, ht, vl, h1]
  rw [if_pos (by omega)]
  have : l.toArray.toList[(i : Int).toNat]? = some v := by simpa using hv
  rw [this]
  simp only [hc, h2, afptr]
  rfl
theorem load_scal {C : Ctx} {e : TypeId} (he : Scal C e) (v : Value) : afload C e (#[v] : Array Value).toList = some v := by
  obtain ⟨d, h1, h2⟩ := he.und
  simp only [afload, h1, h2]
  rfl
/-- A struct's cells, in a slice. -/
structure Agg (C : Ctx) (e : TypeId) (n : Nat) : Prop where
  und : ∃ d, C.und e = some d ∧ isAggD d = true
  inf : ∃ i, C.inf e = some i ∧ i.size = n
def afcells (cs : List Value) : Value := .func (.method "") cs.toArray #[]
theorem idx_agg {C : Ctx} {t e : TypeId} {n : Nat} (ht : C.und t = some (.slice e)) (he : Agg C e n) {k : IntKind} {l : List Value} {i : Nat} {cs : List Value} (hv : l[i]? = some (.agg cs.toArray)) (hc : cs.length = n) : aindexAddr C t (vl l) (.int k i) = some (afcells cs) := by
  obtain ⟨inf, h1, h2⟩ := he.inf
  simp only [aindexAddr, ht, vl, h1]
  rw [if_pos (by omega)]
  have : l.toArray.toList[(i : Int).toNat]? = some (.agg cs.toArray) := by simpa using hv
  rw [this]
  simp only [Value.cells, h2, afcells, hc]
  rw [show Nat.beq n n = true from Nat.beq_refl n]
theorem load_agg {C : Ctx} {e : TypeId} {n : Nat} (he : Agg C e n) {cs : List Value} (hc : cs.length = n) : afload C e cs.toArray.toList = some (.agg cs.toArray) := by
  obtain ⟨d, h1, h2⟩ := he.und
  obtain ⟨inf, h3, h4⟩ := he.inf
  simp only [afload, h1, h2, h3, h4, hc]
  rw [show Nat.ble n n = true from Nat.ble_eq_true_of_le (Nat.le_refl n)]
  simp [← hc]
theorem alen_vl {C : Ctx} {t e : TypeId} (ht : C.und t = some (.slice e)) (l : List Value) : alen C t (vl l) = some (.int .i64 l.length) := by simp only [alen, ht, vl]
theorem alen_nil {C : Ctx} {t e : TypeId} (ht : C.und t = some (.slice e)) (n c : Nat) : alen C t (.slice none n c) = some (.int .i64 n) := by simp only [alen, ht]
/-- All items have so many cells. -/
def AllC (n : Nat) (l : List Value) : Prop := ∀ v ∈ l, v.cells.toList.length = n
theorem headOk_of {n : Nat} {l : List Value} (h : AllC n l) : headOk n l = true := by
  cases l with
  | nil => rfl
  | cons v l => simp only [headOk]; rw [h v List.mem_cons_self]; exact Nat.beq_refl n
theorem slice_to {C : Ctx} {t e : TypeId} {inf : TypeInfo} (ht : C.und t = some (.slice e)) (hi : C.inf e = some inf) {l : List Value} (hl : AllC inf.size l) {k : IntKind} {n : Nat} (hn : n ≤ l.length) :
    aslice C t (vl l) none (some (.int k n)) none = some (vl (l.take n)) := by
  simp only [aslice, ht, vl, hi, headOk_of hl, abnd, Option.isSome_none]
  rw [if_pos (by simp; omega)]
  dsimp only
  simp [cutK, vl]
  rfl
theorem wrap_succ (i : Nat) (h : i < 9000000000000000000) : IntKind.i64.wrap ((i : Int) + 1) = ((i + 1 : Nat) : Int) := by
  rw [IntWalk.i64_in _ (by omega)]
  rfl
theorem settle_bool (C : Ctx) (f : Nat) (b : Bool) (s : AS) : W (match C.frz f with
      | true => do
        let v' ← asettleV C 5 (.bool b)
        pure (.returned v')
      | false => pure (.returned (.bool b))) s fun e _ => e = AEnd.returned (.bool b) := by
  cases C.frz f with
  | true => dsimp only; rw [W_bind]; show W (A.ret (Value.bool b)) s _; rw [W_ret, W_pure]
  | false => dsimp only; rw [W_pure]
end
end Go.Proofs.BhE
