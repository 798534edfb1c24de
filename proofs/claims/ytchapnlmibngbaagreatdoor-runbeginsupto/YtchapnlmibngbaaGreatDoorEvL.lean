/- A closed run, operation by operation. -/
import Derived.Test.YtchapnlmibngbaaGreatDoorEvK
set_option linter.all false
namespace Go.Proofs.BhE
open Go
noncomputable section

structure ADef where
  f : FuncId
  args : List Value
  cap : List Value

structure AAct where
  t : Tr Value
  d : List ADef

inductive AEnd where
  | returned (v : Value)
  | panicked (v : Value)

inductive AExit where
  | normal
  | exit (id : Nat)
  | ret
  | panic (v : Value)

def DefRel (ρ : Rho) (x : ADef) (y : Deferred) : Prop := ∃ args' cap' : Array Value, y = { target := .fn (.func x.f) cap', args := args' } ∧ VRels ρ x.args args'.toList ∧ VRels ρ x.cap cap'.toList
inductive DefsRel (ρ : Rho) : List ADef → List Deferred → Prop
  | nil : DefsRel ρ [] []
  | cons {x : ADef} {y : Deferred} {l : List ADef} {l' : List Deferred} : DefRel ρ x y → DefsRel ρ l l' → DefsRel ρ (x :: l) (y :: l')
theorem DefsRel.ext {ρ ρ' : Rho} (k : Rho.ext ρ ρ') {l : List ADef} {l' : List Deferred} (h : DefsRel ρ l l') : DefsRel ρ' l l' := by
  induction h with
  | nil => exact .nil
  | cons h _ ih =>
    obtain ⟨a, c, e, h1, h2⟩ := h
    exact .cons ⟨a, c, e, h1.ext k, h2.ext k⟩ ih

structure ActRel (ρ : Rho) (nt : Nat) (x : AAct) (a : Act) : Prop where
  size : a.tmps.size = nt
  tmps : ∀ t v, x.t.get t = some v → ∃ v', a.tmps[t]? = some v' ∧ VRel ρ v v'
  defers : DefsRel ρ x.d a.defers
theorem ActRel.ext {ρ ρ' : Rho} {nt : Nat} {x : AAct} {a : Act} (h : ActRel ρ nt x a) (k : Rho.ext ρ ρ') : ActRel ρ' nt x a :=
  ⟨h.size, fun t v hv => let ⟨v', h1, h2⟩ := h.tmps t v hv; ⟨v', h1, h2.ext k⟩, h.defers.ext k⟩

def aevO (t : Tr Value) : Operand → Option Value
  | .tmp i => t.get i
  | .const v => match closedV 3 v with
    | true => some v
    | false => none
  | .func f => some (.func (.func f) #[] #[])
  | .global _ => none
theorem aevO_rel {ρ : Rho} {nt : Nat} {x : AAct} {a : Act} (h : ActRel ρ nt x a) : EvRel ρ (aevO x.t) a.eval := by
  intro o v hv
  cases o with
  | tmp i =>
    obtain ⟨v', h1, h2⟩ := h.tmps i v hv
    simp only [Act.eval, Array.getD_eq_getD_getElem?, h1, Option.getD_some]
    exact h2
  | const c =>
    simp only [aevO] at hv
    split at hv
    · rename_i hc; cases hv; exact closedV_rel ρ _ _ hc
    · cases hv
  | func f => cases hv; exact .func .nil .nil
  | global g => cases hv

def aput (nt : Nat) (x : AAct) (dst : Option Tmp) (v : Value) : Option AAct :=
  match dst with
  | none => some x
  | some d => match Nat.blt d nt with
    | true => some { x with t := x.t.set d v }
    | false => none
theorem aput_rel {ρ : Rho} {nt : Nat} {x x' : AAct} {a : Act} {dst : Option Tmp} {v v' : Value} (h : aput nt x dst v = some x') (hr : ActRel ρ nt x a) (hv : VRel ρ v v') : ActRel ρ nt x' (a.put dst v') := by
  unfold aput at h
  split at h
  · cases h; exact hr
  · rename_i d
    split at h
    · rename_i hlt
      rw [Nat.blt_eq] at hlt
      cases h
      refine ⟨by simp [Act.put, hr.size], ?_, hr.defers⟩
      intro t u hu
      simp only [Tr.get_set] at hu
      simp only [Act.put]
      split at hu
      · rename_i e
        cases hu
        subst e
        exact ⟨v', by simp [hr.size, hlt], hv⟩
      · rename_i hne
        obtain ⟨u', h1, h2⟩ := hr.tmps t u hu
        exact ⟨u', by rw [Array.getElem?_setIfInBounds_ne (by omega)]; exact h1, h2⟩
    · cases h
theorem undef_rel (ρ : Rho) : VRel ρ (.tuple #[]) undef := .tuple .nil

/-- Is an operation wanted? -/
def awant (ops : List Oper) (x : AAct) (o : Oper) : Option Bool :=
  match o.guard with
  | none => some true
  | some (j, want) =>
    match ops[j]? with
    | none => none
    | some g => match g.dst with
      | none => none
      | some d => match x.t.get d with
        | some (.bool b) => some (match want with
          | true => b
          | false => !b)
        | some (.tuple _) => some false
        | _ => none
theorem awant_rel {ρ : Rho} {nt : Nat} {x : AAct} {a : Act} {ops : Array Oper} {o : Oper} {b : Bool} (h : awant ops.toList x o = some b) (hr : ActRel ρ nt x a) : Region.wanted o (yielded ops a.tmps) = b := by
  unfold awant at h
  unfold Region.wanted
  split at h
  · rename_i hg; rw [hg]; cases h; rfl
  · rename_i j want hg
    rw [hg]
    split at h
    · cases h
    rename_i g hj
    have hj' : ops[j]? = some g := by simpa using hj
    split at h
    · cases h
    rename_i d hd
    dsimp only
    unfold yielded
    rw [hj']
    dsimp only [Option.bind_some]
    rw [hd]
    dsimp only [Option.bind_some]
    split at h
    · rename_i b' hb
      obtain ⟨v', h1, h2⟩ := hr.tmps _ _ hb
      cases h2
      rw [h1]
      cases h
      cases want <;> cases b' <;> rfl
    · rename_i c hb
      obtain ⟨v', h1, h2⟩ := hr.tmps _ _ hb
      cases h2
      rw [h1]
      cases h
      rfl
    · cases h

/-! ### One operation -/
inductive Eff where
  | put (v : Value)
  | defer (d : ADef)
  | panic (v : Value)

def aeff (C : Ctx) (call : FuncId → List Value → A AEnd) (ops : List Oper) (x : AAct) (o : Oper) : A Eff :=
  match awant ops x o with
  | none => A.fail
  | some false => pure (.put (.tuple #[]))
  | some true =>
    match o.op with
    | .panic p => match aevO x.t p with
      | some (.iface t v) => pure (.panic (.iface t v))
      | _ => A.fail
    | _ => do
      let r ← aop C (aevO x.t) o
      match r with
      | .val v => pure (.put v)
      | .skip => pure (.put (.tuple #[]))
      | .defer f args cap => pure (.defer ⟨f, args, cap⟩)
      | .enter f args => do
        let r ← call f args
        match r with
        | .returned v => pure (.put v)
        | .panicked v => pure (.panic v)

def aapply (nt : Nat) (x : AAct) (dst : Option Tmp) : Eff → Option (Option Value × AAct)
  | .put v => match aput nt x dst v with
    | some x' => some (none, x')
    | none => none
  | .defer d => match aput nt { x with d := d :: x.d } dst (.tuple #[]) with
    | some x' => some (none, x')
    | none => none
  | .panic v => some (some v, x)

def astep (C : Ctx) (call : FuncId → List Value → A AEnd) (nt : Nat) (ops : List Oper) (x : AAct) (o : Oper) : A (Option Value × AAct) := do
  let r ← aeff C call ops x o
  A.ofOption (aapply nt x o.dst r)

inductive EndRel (ρ : Rho) : AEnd → Ending → Prop
  | returned {v v' : Value} : VRel ρ v v' → EndRel ρ (.returned v) (.returned v')
  | panicked {v v' : Value} : VRel ρ v v' → EndRel ρ (.panicked v) (.panicked [{ v := v', recovered := false }])

def SimCall (P : Program) (Pm : Nat → Prop) (ρ : Rho) (s : AS) (w : World) (m : A AEnd) (f : FuncId) (args : Array Value) : Prop :=
  ∀ x s', m.run s = some (x, s') → Pre Pm ρ s w s' → Calls P f args w fun e w' => ∃ ρ', Step Pm ρ s w ρ' s' w' ∧ EndRel ρ' x e

def CallOk (P : Program) (call : FuncId → List Value → A AEnd) : Prop :=
  ∀ f args args' Pm ρ s w, VRels ρ args (Array.toList args') → SimCall P Pm ρ s w (call f args) f args'

/-- What comes of an operation: it goes on, or it panics. -/
inductive OutRel (ρ : Rho) (nt : Nat) : Option Value × AAct → Exit → Act → Prop
  | on {x : AAct} {a : Act} : ActRel ρ nt x a → OutRel ρ nt (none, x) .normal a
  | panic {x : AAct} {a : Act} {v v' : Value} : ActRel ρ nt x a → VRel ρ v v' → OutRel ρ nt (some v, x) (.panic [{ v := v', recovered := false }]) a

section
variable {P : Program} {C : Ctx} {Pm : Nat → Prop} {ρ : Rho} {s : AS} {w : World} {nt : Nat} {call : FuncId → List Value → A AEnd}

theorem ofOption_some {α : Type} {o : Option α} {s s' : AS} {x : α} (h : (A.ofOption o).run s = some (x, s')) : o = some x ∧ s' = s := by
  cases o with
  | none => cases h
  | some y => cases h; exact ⟨rfl, rfl⟩

theorem eff_ok (hC : C.Ok P) (hcall : CallOk P call) {ops : Array Oper} {i : Nat} {o : Oper} (ho : ops[i]? = some o) {x : AAct} {a : Act} (ha : ActRel ρ nt x a)
    {r : Eff} {s' : AS} (h : (aeff C call ops.toList x o).run s = some (r, s')) (hp : Pre Pm ρ s w s')
    {K : Act → World → Prop} {Q : Exit → Act → World → Prop}
    (hput : ∀ v, r = .put v → ∀ ρ' w' v', Step Pm ρ s w ρ' s' w' → VRel ρ' v v' → K (a.put o.dst v') w')
    (hdef : ∀ d, r = .defer d → ∀ ρ' w' y, Step Pm ρ s w ρ' s' w' → DefRel ρ' d y → K (({ a with defers := y :: a.defers } : Act).put o.dst undef) w')
    (hpan : ∀ v, r = .panic v → ∀ ρ' w' v', Step Pm ρ s w ρ' s' w' → VRel ρ' v v' → Q (.panic [{ v := v', recovered := false }]) a w') : wpOp P ops Q i K a w := by
  unfold aeff at h
  unfold wpOp
  rw [ho]
  dsimp only
  split at h
  · cases h
  · rename_i hw
    rw [awant_rel hw ha]
    simp only [Bool.false_eq_true, if_false]
    cases h
    exact hput _ rfl ρ w _ (Step.refl hp) (undef_rel ρ)
  · rename_i hw
    rw [awant_rel hw ha]
    simp only [if_true]
    left
    unfold Oper.wp
    split at h
    · rename_i p hop
      split at h
      · rename_i t v hv
        cases h
        have hr := aevO_rel ha _ _ hv
        have hrun : (execOp a.eval o).run P w = .halt (.panic (a.eval p)) w := by
          unfold execOp
          simp only [hop]
          generalize a.eval p = u at hr
          cases hr
          rfl
        rw [hrun]
        exact hpan _ rfl ρ w _ (Step.refl hp) hr
      · cases h
    · rename_i hnp
      obtain ⟨y, s1, h1, h2⟩ := A.bindRun_some h
      have m2 : s1.le s' := A.mono _ _ _ _ h2
      obtain ⟨ρ1, y', w1, e1, st1, hr⟩ := sim_op (P := P) (s := s) (w := w) (Pm := Pm) hC (aevO_rel ha) o y s1 h1 (hp.first m2)
      rw [e1]
      have hp1 := hp.next (A.mono _ _ _ _ h1) st1
      cases hr with
      | val hv =>
        cases h2
        exact hput _ rfl ρ1 w1 _ st1 hv
      | skip =>
        cases h2
        exact hput _ rfl ρ1 w1 _ st1 (undef_rel ρ1)
      | @defer f args cap args' cap' ha1 hc1 =>
        cases h2
        exact hdef _ rfl ρ1 w1 _ st1 ⟨args', cap', rfl, ha1, hc1⟩
      | @enter f args args' hargs =>
        obtain ⟨z, s2, h3, h4⟩ := A.bindRun_some h2
        have m3 : s2.le s' := A.mono _ _ _ _ h4
        have hc := hcall f args args' Pm ρ1 s1 w1 hargs z s2 h3 (hp1.first m3)
        show Calls P f args' w1 _
        refine hc.mono ?_
        rintro e w2 ⟨ρ2, st2, her⟩
        have st := st1.trans st2 (A.mono _ _ _ _ h1).n (A.mono _ _ _ _ h3).n
        cases her with
        | returned hv =>
          cases h4
          exact hput _ rfl ρ2 w2 _ st hv
        | panicked hv =>
          cases h4
          exact hpan _ rfl ρ2 w2 _ st hv

theorem step_ok (hC : C.Ok P) (hcall : CallOk P call) {ops : Array Oper} {i : Nat} {o : Oper} (ho : ops[i]? = some o) {x : AAct} {a : Act} (ha : ActRel ρ nt x a)
    {r : Option Value × AAct} {s' : AS} (h : (astep C call nt ops.toList x o).run s = some (r, s')) (hp : Pre Pm ρ s w s')
    {K : Act → World → Prop} {Q : Exit → Act → World → Prop}
    (hK : ∀ ρ' e' a' w', Step Pm ρ s w ρ' s' w' → OutRel ρ' nt r e' a' → Exit.then K Q e' a' w') : wpOp P ops Q i K a w := by
  obtain ⟨y, s1, h1, h2⟩ := A.bindRun_some h
  obtain ⟨h3, rfl⟩ := ofOption_some h2
  refine eff_ok hC hcall ho ha h1 hp ?_ ?_ ?_
  · rintro v rfl ρ' w' v' st hv
    unfold aapply at h3
    dsimp only at h3
    split at h3
    · rename_i x' hx
      cases h3
      exact hK ρ' .normal _ w' st (.on (aput_rel hx (ha.ext st.ext) hv))
    · cases h3
  · rintro d rfl ρ' w' y st hd
    unfold aapply at h3
    dsimp only at h3
    split at h3
    · rename_i x' hx
      cases h3
      have ha2 := ha.ext st.ext
      have : ActRel ρ' nt { x with d := d :: x.d } { a with defers := y :: a.defers } := ⟨ha2.size, ha2.tmps, .cons hd ha2.defers⟩
      exact hK ρ' .normal _ w' st (.on (aput_rel hx this (undef_rel ρ')))
    · cases h3
  · rintro v rfl ρ' w' v' st hv
    cases h3
    exact hK ρ' (.panic _) a w' st (.panic (ha.ext st.ext) hv)

/-! ### Operations one behind the other -/
def aops (C : Ctx) (call : FuncId → List Value → A AEnd) (nt : Nat) (all : List Oper) : List Oper → AAct → A (Option Value × AAct)
  | [], x => pure (none, x)
  | o :: rest, x => do
    let r ← astep C call nt all x o
    match r with
    | (none, x') => aops C call nt all rest x'
    | (some v, x') => pure (some v, x')

theorem ops_ok (hC : C.Ok P) (hcall : CallOk P call) {ops : Array Oper} (n : Nat) : ∀ (i : Nat) {ρ : Rho} {s : AS} {w : World} {x : AAct} {a : Act}, i + n = ops.size → ActRel ρ nt x a →
    ∀ {r : Option Value × AAct} {s' : AS}, (aops C call nt ops.toList (ops.toList.drop i) x).run s = some (r, s') → Pre Pm ρ s w s' →
    ∀ {Q : Exit → Act → World → Prop}, (∀ ρ' e' a' w', Step Pm ρ s w ρ' s' w' → OutRel ρ' nt r e' a' → Q e' a' w') → wpOps P ops Q (List.range' i n) a w := by
  induction n with
  | zero =>
    intro i ρ s w x a hi ha r s' h hp Q hQ
    have : ops.toList.drop i = [] := by simp; omega
    rw [this] at h
    cases h
    exact hQ ρ .normal a w (Step.refl hp) (.on ha)
  | succ n ih =>
    intro i ρ s w x a hi ha r s' h hp Q hQ
    have hlt : i < ops.size := by omega
    have hd : ops.toList.drop i = ops[i] :: ops.toList.drop (i + 1) := by
      rw [List.drop_eq_getElem_cons (by simpa using hlt)]
      simp
    rw [hd] at h
    obtain ⟨y, s1, h1, h2⟩ := A.bindRun_some h
    have m2 : s1.le s' := A.mono _ _ _ _ h2
    rw [List.range'_succ, wpOps_cons]
    refine step_ok hC hcall (by simp [hlt]) ha h1 (hp.first m2) ?_
    intro ρ1 e1 a1 w1 st1 hr1
    have hp1 := hp.next (A.mono _ _ _ _ h1) st1
    cases hr1 with
    | on ha1 =>
      refine ih (i + 1) (by omega) ha1 h2 hp1 ?_
      intro ρ2 e2 a2 w2 st2 hr2
      exact hQ ρ2 e2 a2 w2 (st1.trans st2 (A.mono _ _ _ _ h1).n m2.n) hr2
    | panic ha1 hv =>
      cases h2
      exact hQ ρ1 _ a1 w1 st1 (.panic ha1 hv)
end
end
end Go.Proofs.BhE
