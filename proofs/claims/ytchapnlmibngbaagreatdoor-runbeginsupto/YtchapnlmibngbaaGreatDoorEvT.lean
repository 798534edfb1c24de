/- A closed run of code. -/
import Derived.Test.YtchapnlmibngbaaGreatDoorEvS
import Derived.LoopN
set_option linter.all false
namespace Go.Proofs.BhE
open Go
noncomputable section

inductive ExitRel (ρ : Rho) : AExit → Exit → Prop
  | normal : ExitRel ρ .normal .normal
  | exit (id : Nat) : ExitRel ρ (.exit id) (.exit id)
  | ret : ExitRel ρ .ret .ret
  | panic {v v' : Value} : VRel ρ v v' → ExitRel ρ (.panic v) (.panic [{ v := v', recovered := false }])

def aloop (body : AAct → A (AExit × AAct)) : Nat → AAct → A (AExit × AAct)
  | 0, _ => A.fail
  | n + 1, x => do
    let r ← body x
    match r.1 with
    | .normal => aloop body n r.2
    | .exit id => pure (.exit id, r.2)
    | .ret => pure (.ret, r.2)
    | .panic v => pure (.panic v, r.2)

section
variable (C : Ctx) (call : FuncId → List Value → A AEnd) (nt fuel : Nat)
def acode : Code → AAct → A (AExit × AAct)
  | .skip, x => pure (.normal, x)
  | .region _ ops drawn, x => do
    let r ← aregion C call nt ops.toList drawn x
    match r.1 with
    | none => pure (.normal, r.2)
    | some v => pure (.panic v, r.2)
  | .seq a b, x => do
    let r ← acode a x
    match r.1 with
    | .normal => acode b r.2
    | .exit id => pure (.exit id, r.2)
    | .ret => pure (.ret, r.2)
    | .panic v => pure (.panic v, r.2)
  | .cond c a b, x =>
    match aevO x.t c with
    | some (.bool true) => acode a x
    | some (.bool false) => acode b x
    | _ => A.fail
  | .block id c, x => do
    let r ← acode c x
    match r.1 with
    | .normal => pure (.normal, r.2)
    | .exit id' => match Nat.beq id' id with
      | true => pure (.normal, r.2)
      | false => pure (.exit id', r.2)
    | .ret => pure (.ret, r.2)
    | .panic v => pure (.panic v, r.2)
  | .loop c, x => aloop (acode c) fuel x
  | .exit id, x => pure (.exit id, x)
  | .ret, x => pure (.ret, x)
  | _, _ => A.fail
end

section
variable {P : Program} {C : Ctx} {call : FuncId → List Value → A AEnd} {nt fuel : Nat} {Pm : Nat → Prop}

def CodeOk (P : Program) (nt : Nat) (c : Code) (m : AAct → A (AExit × AAct)) : Prop :=
  ∀ {Pm : Nat → Prop} {ρ : Rho} {s s' : AS} {w : World} {x : AAct} {a : Act} {r : AExit × AAct} {Q : Exit → Act → World → Prop}, ActRel ρ nt x a → (m x).run s = some (r, s') → Pre Pm ρ s w s' →
    (∀ ρ' e' a' w', Step Pm ρ s w ρ' s' w' → ExitRel ρ' r.1 e' → ActRel ρ' nt r.2 a' → Q e' a' w') → c.wp P Q a w

theorem loop_ok {c : Code} {body : AAct → A (AExit × AAct)} (hb : CodeOk P nt c body) : ∀ (n : Nat) {ρ : Rho} {s s' : AS} {w : World} {x : AAct} {a : Act} {r : AExit × AAct} {Q : Exit → Act → World → Prop},
    ActRel ρ nt x a → (aloop body n x).run s = some (r, s') → Pre Pm ρ s w s' →
    (∀ ρ' e' a' w', Step Pm ρ s w ρ' s' w' → ExitRel ρ' r.1 e' → ActRel ρ' nt r.2 a' → Q e' a' w') → Code.rounds P c Q n a w := by
  intro n
  induction n with
  | zero => intro ρ s s' w x a r Q ha h hp hQ; cases h
  | succ n ih =>
    intro ρ s s' w x a r Q ha h hp hQ
    obtain ⟨⟨e1, x1⟩, s1, h1, h2⟩ := A.bindRun_some h
    have m2 : s1.le s' := A.mono _ _ _ _ h2
    show c.wp P _ a w
    refine hb ha h1 (hp.first m2) ?_
    intro ρ1 e' a1 w1 st1 he ha1
    have hp1 := hp.next (A.mono _ _ _ _ h1) st1
    cases he with
    | normal =>
      exact ih ha1 h2 hp1 fun ρ2 e2 a2 w2 st2 => hQ ρ2 e2 a2 w2 (st1.trans st2 (A.mono _ _ _ _ h1).n m2.n)
    | exit id => cases h2; exact hQ ρ1 _ a1 w1 st1 (.exit id) ha1
    | ret => cases h2; exact hQ ρ1 _ a1 w1 st1 .ret ha1
    | panic hv => cases h2; exact hQ ρ1 _ a1 w1 st1 (.panic hv) ha1

theorem code_ok (hC : C.Ok P) (hcall : CallOk P call) (hf : P.follows .mixedOrders = true) : ∀ c : Code, CodeOk P nt c (acode C call nt fuel c) := by
  intro c
  induction c with
  | skip =>
    intro Pm ρ s s' w x a r Q ha h hp hQ
    cases h
    exact wp_skip (hQ ρ _ a w (Step.refl hp) .normal ha)
  | exit id =>
    intro Pm ρ s s' w x a r Q ha h hp hQ
    cases h
    exact wp_exit (hQ ρ _ a w (Step.refl hp) (.exit id) ha)
  | ret =>
    intro Pm ρ s s' w x a r Q ha h hp hQ
    cases h
    exact wp_ret (hQ ρ _ a w (Step.refl hp) .ret ha)
  | region id ops drawn =>
    intro Pm ρ s s' w x a r Q ha h hp hQ
    obtain ⟨⟨o, x1⟩, s1, h1, h2⟩ := A.bindRun_some h
    have m2 : s1.le s' := A.mono _ _ _ _ h2
    refine region_ok hC hcall hf ha h1 (hp.first m2) ?_
    intro ρ1 e' a1 w1 st1 hr
    cases hr with
    | on ha1 => cases h2; exact hQ ρ1 _ a1 w1 st1 .normal ha1
    | panic ha1 hv => cases h2; exact hQ ρ1 _ a1 w1 st1 (.panic hv) ha1
  | seq c1 c2 ih1 ih2 =>
    intro Pm ρ s s' w x a r Q ha h hp hQ
    obtain ⟨⟨e1, x1⟩, s1, h1, h2⟩ := A.bindRun_some h
    have m2 : s1.le s' := A.mono _ _ _ _ h2
    refine wp_seq (ih1 ha h1 (hp.first m2) ?_)
    intro ρ1 e' a1 w1 st1 he ha1
    have hp1 := hp.next (A.mono _ _ _ _ h1) st1
    cases he with
    | normal =>
      exact ih2 ha1 h2 hp1 fun ρ2 e2 a2 w2 st2 => hQ ρ2 e2 a2 w2 (st1.trans st2 (A.mono _ _ _ _ h1).n m2.n)
    | exit id => cases h2; exact hQ ρ1 _ a1 w1 st1 (.exit id) ha1
    | ret => cases h2; exact hQ ρ1 _ a1 w1 st1 .ret ha1
    | panic hv => cases h2; exact hQ ρ1 _ a1 w1 st1 (.panic hv) ha1
  | cond c c1 c2 ih1 ih2 =>
    intro Pm ρ s s' w x a r Q ha h hp hQ
    unfold acode at h
    split at h
    · rename_i hv
      have hr := aevO_rel ha _ _ hv
      generalize hg : a.eval c = u at hr
      cases hr
      exact wp_cond_true hg (ih1 ha h hp hQ)
    · rename_i hv
      have hr := aevO_rel ha _ _ hv
      generalize hg : a.eval c = u at hr
      cases hr
      exact wp_cond_false hg (ih2 ha h hp hQ)
    · cases h
  | block id c1 ih =>
    intro Pm ρ s s' w x a r Q ha h hp hQ
    obtain ⟨⟨e1, x1⟩, s1, h1, h2⟩ := A.bindRun_some h
    have m2 : s1.le s' := A.mono _ _ _ _ h2
    refine wp_block (ih ha h1 (hp.first m2) ?_)
    intro ρ1 e' a1 w1 st1 he ha1
    cases he with
    | normal => cases h2; exact hQ ρ1 _ a1 w1 st1 .normal ha1
    | exit id' =>
      dsimp only at h2
      unfold Exit.inBlock
      dsimp only
      split at h2
      · rename_i hb
        rw [if_pos (Nat.eq_of_beq_eq_true hb)]
        cases h2
        exact hQ ρ1 _ a1 w1 st1 .normal ha1
      · rename_i hb
        rw [if_neg (by intro e; rw [e] at hb; simp at hb)]
        cases h2
        exact hQ ρ1 _ a1 w1 st1 (.exit id') ha1
    | ret => cases h2; exact hQ ρ1 _ a1 w1 st1 .ret ha1
    | panic hv => cases h2; exact hQ ρ1 _ a1 w1 st1 (.panic hv) ha1
  | loop c1 ih =>
    intro Pm ρ s s' w x a r Q ha h hp hQ
    exact wp_loop_rounds fuel (loop_ok ih fuel ha h hp hQ)
  | _ => intro Pm ρ s s' w x a r Q ha h hp hQ; cases h
end
end
end Go.Proofs.BhE
