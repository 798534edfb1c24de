/- Regions, operation by operation. -/
import Derived.Test.YtchapnlmibngbaaGreatDoorEvX5
set_option linter.all false
namespace Go.Proofs.BhE
open Go
noncomputable section
section
variable {C : Ctx} {call : FuncId → List Value → A AEnd} {callP : FuncId → List Value → Option Value} {nt : Nat} {ds : List (Option Tmp)}
/-- What is left of a region that touches nothing. -/
def RQ (C : Ctx) (callP : FuncId → List Value → Option Value) (nt : Nat) (ds : List (Option Tmp)) (l : List Oper) (x : AAct) (Q : AAct → Prop) : Prop := ∃ x', qops C callP nt ds l x = some x' ∧ Q x'
theorem q_nil {x : AAct} {Q : AAct → Prop} (h : Q x) : RQ C callP nt ds [] x Q := ⟨x, rfl, h⟩
theorem q_step {o : Oper} {rest : List Oper} {t : Tr Value} {df : List ADef} {Q : AAct → Prop} {v : Value} {d : Tmp} (hw : wantG ds t o.guard = some true) (hv : qop C callP (aevO t) o.op = some v) (hd : o.dst = some d) (hlt : d < nt)
    (h : RQ C callP nt ds rest ⟨t.set d v, df⟩ Q) : RQ C callP nt ds (o :: rest) ⟨t, df⟩ Q := by
  obtain ⟨x', h1, h2⟩ := h
  refine ⟨x', ?_, h2⟩
  unfold qops
  simp only [hw, hv, hd, aput_lt _ _ hlt]
  exact h1
theorem q_skip {o : Oper} {rest : List Oper} {t : Tr Value} {df : List ADef} {Q : AAct → Prop} {d : Tmp} (hw : wantG ds t o.guard = some false) (hd : o.dst = some d) (hlt : d < nt)
    (h : RQ C callP nt ds rest ⟨t.set d (.tuple #[]), df⟩ Q) : RQ C callP nt ds (o :: rest) ⟨t, df⟩ Q := by
  obtain ⟨x', h1, h2⟩ := h
  refine ⟨x', ?_, h2⟩
  unfold qops
  simp only [hw, hd, aput_lt _ _ hlt]
  exact h1
/-- An operation, wanted or not. -/
def QOp (C : Ctx) (callP : FuncId → List Value → Option Value) (nt : Nat) (ds : List (Option Tmp)) (o : Oper) (rest : List Oper) (t : Tr Value) (df : List ADef) (Q : AAct → Prop) : Bool → Prop
  | true => ∃ v d, qop C callP (aevO t) o.op = some v ∧ o.dst = some d ∧ d < nt ∧ RQ C callP nt ds rest ⟨t.set d v, df⟩ Q
  | false => ∃ d, o.dst = some d ∧ d < nt ∧ RQ C callP nt ds rest ⟨t.set d (.tuple #[]), df⟩ Q
theorem q_op {o : Oper} {rest : List Oper} {t : Tr Value} {df : List ADef} {Q : AAct → Prop} {b : Bool} (hw : wantG ds t o.guard = some b) (h : QOp C callP nt ds o rest t df Q b) : RQ C callP nt ds (o :: rest) ⟨t, df⟩ Q := by
  cases b with
  | true => obtain ⟨v, d, h1, h2, h3, h4⟩ := h; exact q_step hw h1 h2 h3 h4
  | false => obtain ⟨d, h2, h3, h4⟩ := h; exact q_skip hw h2 h3 h4
theorem q_t {o : Oper} {rest : List Oper} {t : Tr Value} {df : List ADef} {Q : AAct → Prop} (h : ∃ v d, qop C callP (aevO t) o.op = some v ∧ o.dst = some d ∧ d < nt ∧ RQ C callP nt ds rest ⟨t.set d v, df⟩ Q) : QOp C callP nt ds o rest t df Q true := h
theorem q_f {o : Oper} {rest : List Oper} {t : Tr Value} {df : List ADef} {Q : AAct → Prop} (h : ∃ d, o.dst = some d ∧ d < nt ∧ RQ C callP nt ds rest ⟨t.set d (.tuple #[]), df⟩ Q) : QOp C callP nt ds o rest t df Q false := h
theorem W_q (hc : ∀ f args v, callP f args = some v → call f args = A.ret (.returned v)) {fuel : Nat} {id : Nat} {ops : Array Oper} {drawn : Bool} {x : AAct} {s : AS} {Q : AExit × AAct → AS → Prop}
    (hd : drawn = false ∨ sdraw ops.toList ops.toList [] = true) {l : List Oper} (hl : ops.toList = l) {ds : List (Option Tmp)} (hds : dsts l = ds) (h : RQ C callP nt ds l x fun x' => Q (.normal, x') s) : W (acode C call nt fuel (.region id ops drawn) x) s Q := by
  obtain ⟨x', h1, h2⟩ := h
  subst hl hds
  exact W_quiet hc hd ⟨x', h1, h2⟩
/-- What is left of a region with a store. -/
def RS (C : Ctx) (callP : FuncId → List Value → Option Value) (nt : Nat) (ds : List (Option Tmp)) (l : List Oper) (x : AAct) (s : AS) (Q : AAct → AS → Prop) : Prop := ∃ x' s', sops C callP nt ds l x s = some (x', s') ∧ Q x' s'
theorem s_nil {x : AAct} {s : AS} {Q : AAct → AS → Prop} (h : Q x s) : RS C callP nt ds [] x s Q := ⟨x, s, rfl, h⟩
theorem s_step {o : Oper} {rest : List Oper} {t : Tr Value} {df : List ADef} {s s1 : AS} {Q : AAct → AS → Prop} {v : Value} {d : Tmp} (hw : wantG ds t o.guard = some true) (hv : sop C callP s (aevO t) o.op = some (v, s1)) (hd : o.dst = some d) (hlt : d < nt)
    (h : RS C callP nt ds rest ⟨t.set d v, df⟩ s1 Q) : RS C callP nt ds (o :: rest) ⟨t, df⟩ s Q := by
  obtain ⟨x', s', h1, h2⟩ := h
  refine ⟨x', s', ?_, h2⟩
  unfold sops
  simp only [hw, hv, hd, aput_lt _ _ hlt]
  exact h1
theorem s_void {o : Oper} {rest : List Oper} {t : Tr Value} {df : List ADef} {s s1 : AS} {Q : AAct → AS → Prop} {v : Value} (hw : wantG ds t o.guard = some true) (hv : sop C callP s (aevO t) o.op = some (v, s1)) (hd : o.dst = none)
    (h : RS C callP nt ds rest ⟨t, df⟩ s1 Q) : RS C callP nt ds (o :: rest) ⟨t, df⟩ s Q := by
  obtain ⟨x', s', h1, h2⟩ := h
  refine ⟨x', s', ?_, h2⟩
  unfold sops
  simp only [hw, hv, hd, aput]
  exact h1
theorem s_skip {o : Oper} {rest : List Oper} {t : Tr Value} {df : List ADef} {s : AS} {Q : AAct → AS → Prop} {d : Tmp} (hw : wantG ds t o.guard = some false) (hd : o.dst = some d) (hlt : d < nt)
    (h : RS C callP nt ds rest ⟨t.set d (.tuple #[]), df⟩ s Q) : RS C callP nt ds (o :: rest) ⟨t, df⟩ s Q := by
  obtain ⟨x', s', h1, h2⟩ := h
  refine ⟨x', s', ?_, h2⟩
  unfold sops
  simp only [hw, hd, aput_lt _ _ hlt]
  exact h1
def SOp (C : Ctx) (callP : FuncId → List Value → Option Value) (nt : Nat) (ds : List (Option Tmp)) (o : Oper) (rest : List Oper) (t : Tr Value) (df : List ADef) (s : AS) (Q : AAct → AS → Prop) : Bool → Prop
  | true => ∃ v s1, sop C callP s (aevO t) o.op = some (v, s1) ∧ match o.dst with
    | some d => d < nt ∧ RS C callP nt ds rest ⟨t.set d v, df⟩ s1 Q
    | none => RS C callP nt ds rest ⟨t, df⟩ s1 Q
  | false => ∃ d, o.dst = some d ∧ d < nt ∧ RS C callP nt ds rest ⟨t.set d (.tuple #[]), df⟩ s Q
theorem s_op {o : Oper} {rest : List Oper} {t : Tr Value} {df : List ADef} {s : AS} {Q : AAct → AS → Prop} {b : Bool} (hw : wantG ds t o.guard = some b) (h : SOp C callP nt ds o rest t df s Q b) : RS C callP nt ds (o :: rest) ⟨t, df⟩ s Q := by
  cases b with
  | true =>
    obtain ⟨v, s1, h1, h2⟩ := h
    split at h2
    · rename_i d hd; exact s_step hw h1 hd h2.1 h2.2
    · rename_i hd; exact s_void hw h1 hd h2
  | false => obtain ⟨d, h2, h3, h4⟩ := h; exact s_skip hw h2 h3 h4
theorem s_t {o : Oper} {rest : List Oper} {t : Tr Value} {df : List ADef} {s : AS} {Q : AAct → AS → Prop} {d : Tmp} (hd : o.dst = some d) (h : ∃ v s1, sop C callP s (aevO t) o.op = some (v, s1) ∧ d < nt ∧ RS C callP nt ds rest ⟨t.set d v, df⟩ s1 Q) : SOp C callP nt ds o rest t df s Q true := by
  obtain ⟨v, s1, h1, h2⟩ := h
  refine ⟨v, s1, h1, ?_⟩
  rw [hd]
  exact h2
theorem s_n {o : Oper} {rest : List Oper} {t : Tr Value} {df : List ADef} {s : AS} {Q : AAct → AS → Prop} (hd : o.dst = none) (h : ∃ v s1, sop C callP s (aevO t) o.op = some (v, s1) ∧ RS C callP nt ds rest ⟨t, df⟩ s1 Q) : SOp C callP nt ds o rest t df s Q true := by
  obtain ⟨v, s1, h1, h2⟩ := h
  refine ⟨v, s1, h1, ?_⟩
  rw [hd]
  exact h2
theorem s_f {o : Oper} {rest : List Oper} {t : Tr Value} {df : List ADef} {s : AS} {Q : AAct → AS → Prop} (h : ∃ d, o.dst = some d ∧ d < nt ∧ RS C callP nt ds rest ⟨t.set d (.tuple #[]), df⟩ s Q) : SOp C callP nt ds o rest t df s Q false := h
theorem W_s (hc : ∀ f args v, callP f args = some v → call f args = A.ret (.returned v)) {fuel : Nat} {id : Nat} {ops : Array Oper} {x : AAct} {s : AS} {Q : AExit × AAct → AS → Prop}
    {l : List Oper} (hl : ops.toList = l) {ds : List (Option Tmp)} (hds : dsts l = ds) (h : RS C callP nt ds l x s fun x' s' => Q (.normal, x') s') : W (acode C call nt fuel (.region id ops false) x) s Q := by
  obtain ⟨x', s', h1, h2⟩ := h
  subst hl hds
  exact W_ops hc ⟨x', s', h1, h2⟩
end
end
end Go.Proofs.BhE
