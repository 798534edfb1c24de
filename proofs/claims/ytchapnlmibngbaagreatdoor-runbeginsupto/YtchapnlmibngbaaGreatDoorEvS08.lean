/- The program of this seat, as the closed run reads it. -/
import Derived.Test.YtchapnlmibngbaaGreatDoorProg
import Derived.Test.YtchapnlmibngbaaGreatDoorEvZ3
import Derived.KernelRfl
import Derived.Lib.Bytealg
set_option linter.all false
open Go Go.Proofs Go.Proofs.BhE
namespace Go.Proofs.BhE.T
def idxGo (b : Nat) : Nat → List UInt8 → Int
  | _, [] => -1
  | k, c :: l => match Nat.beq c.toNat b with
    | true => Int.ofNat k
    | false => idxGo b (k + 1) l
def idx : List Value → Option Value
  | [.string s, .int .u8 b] => match Nat.blt b.toNat 256 with
    | true => some (.int .i64 (idxGo b.toNat 0 s.data.toList))
    | false => none
  | _ => none
theorem idxGo_eq (b : Nat) (hb : b < 256) : ∀ (l : List UInt8) (k : Nat), idxGo b k l = if Lib.indexByte l b.toUInt8 = -1 then -1 else (k : Int) + Lib.indexByte l b.toUInt8 := by
  intro l
  induction l with
  | nil => intro k; rfl
  | cons c l ih =>
    intro k
    unfold idxGo Lib.indexByte
    cases hc : Nat.beq c.toNat b with
    | true =>
      have : c = b.toUInt8 := by
        have := Nat.eq_of_beq_eq_true hc
        rw [← this]
        simp
      rw [this]
      simp
    | false =>
      have : (c == b.toUInt8) = false := by
        rw [beq_eq_false_iff_ne]
        rintro rfl
        have : b.toUInt8.toNat = b := by simp; omega
        rw [this] at hc
        simp at hc
      rw [this]
      dsimp only
      rw [ih (k + 1)]
      have hge := Lib.indexByte_ge l b.toUInt8
      generalize Lib.indexByte l b.toUInt8 = x at hge ⊢
      by_cases hx : x = -1
      · subst hx; simp
      · have h2 : (x == -1) = false := by rw [beq_eq_false_iff_ne]; exact hx
        rw [h2]
        simp only [Bool.false_eq_true, if_false]
        rw [if_neg hx, if_neg (by omega)]
        omega
noncomputable def C : Ctx := { fn := fun f => Tryz.prog.funcs[f]?, und := Tryz.prog.underlying, inf := Tryz.prog.info?, ext := fun f => match Nat.beq f 241 with | true => some idx | false => none, frz := fun f => !([72, 73, 95, 97, 222].any (Nat.beq f)) }
theorem names : (Tryz.prog.funcs.toList.all fun x => !(x.name == "runtime.NumGoroutine")) = true := by kernel_rfl
theorem mixed : Tryz.prog.follows .mixedOrders = true := by kernel_rfl
theorem idx_run (s : ByteArray) (b : Int) (hb : b.toNat < 256) : firstIdx s b.toNat.toUInt8 = idxGo b.toNat 0 s.data.toList := by
  rw [idxGo_eq _ hb, Lib.firstIdx_eq]
  split
  · assumption
  · simp
theorem idx_ok (r : Value) (args : List Value) (hr : idx args = some r) (ρ : Rho) (args' : Array Value) (hargs : VRels ρ args args'.toList) (w : World) :
    ∃ r', (callFunc 241 args').run Tryz.prog w = .ok (.value r') w ∧ VRel ρ r r' := by
  unfold idx at hr
  split at hr
  · rename_i s b
    split at hr
    · rename_i hb
      cases hr
      have hargs' : args' = #[.string s, .int .u8 b] := by
        cases args' with
        | mk l =>
          simp only at hargs
          cases hargs with
          | cons h1 h2 => cases h1; cases h2 with
            | cons h3 h4 => cases h3; cases h4; rfl
      subst hargs'
      refine ⟨_, ?_, .int _ _⟩
      rw [run_callFunc_extern (fn := Tryz.f241) (e := Extern.BytealgIndexByte.indexByte) (by kernel_rfl) (by kernel_rfl) (by kernel_rfl) (by kernel_rfl) (by kernel_rfl), run_indexByte_string]
      simp only [Result.andThen]
      rw [idx_run]
      rwa [Nat.blt_eq] at hb
    · cases hr
  · cases hr
theorem names_at (f : Nat) (x : Func) (h1 : Tryz.prog.funcs[f]? = some x) : (x.name == "runtime.NumGoroutine") = false := by
  have h := names
  rw [List.all_eq_true] at h
  have := h x (by
    rw [Array.mem_toList_iff]
    exact Array.mem_of_getElem? h1)
  simpa using this
theorem ext_ok (f : Nat) (o : List Value → Option Value) (h : C.ext f = some o) : f = 241 ∧ o = idx := by
  unfold C at h
  dsimp only at h
  split at h
  · rename_i hf
    cases h
    exact ⟨Nat.eq_of_beq_eq_true hf, rfl⟩
  · cases h
set_option maxRecDepth 100000 in
theorem C_ok : C.Ok Tryz.prog := ⟨fun _ _ h => h, fun f x h => names_at f x h, fun f o args r ho hr ρ args' hargs w => by
  obtain ⟨rfl, rfl⟩ := ext_ok f o ho
  exact idx_ok r args hr ρ args' hargs w, fun _ _ h => h, fun _ _ h => h⟩
end Go.Proofs.BhE.T
