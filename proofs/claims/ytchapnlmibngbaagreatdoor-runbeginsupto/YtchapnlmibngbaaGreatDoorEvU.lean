/- A closed call. -/
import Derived.Test.YtchapnlmibngbaaGreatDoorEvT
import Derived.Defers
import Derived.Recover
import Derived.Laws.Sem
set_option linter.all false
namespace Go.Proofs.BhE
open Go
noncomputable section

/-! ### 1. What a call answers -/
def aresult (C : Ctx) (t : Tr Value) : ResultVar → A Value
  | .tmp i => A.ofOption (t.get i)
  | .cell a ty => match t.get a with
    | some (.pointer (some ad)) => aloadVar C ty ad
    | _ => A.fail
def aresultL (C : Ctx) (t : Tr Value) : List ResultVar → A (List Value)
  | [] => pure []
  | r :: l => do
    let v ← aresult C t r
    let vs ← aresultL C t l
    pure (v :: vs)
def aresults (C : Ctx) (t : Tr Value) (l : List ResultVar) : A Value := do
  let vs ← aresultL C t l
  match vs with
  | [v] => pure v
  | vs => pure (.tuple vs.toArray)

section
variable {P : Program} {C : Ctx} {call : FuncId → List Value → A AEnd} {nt fuel : Nat} {Pm : Nat → Prop} {ρ : Rho} {s : AS} {w : World}

def resultOf (tmps : Array Value) : ResultVar → Sem Value
  | .tmp t => pure (tmps.getD t undef)
  | .cell a t => do loadVar t (← asAddr (tmps.getD a undef))
theorem sim_result (hC : C.Ok P) {x : AAct} {a : Act} (ha : ActRel ρ nt x a) (r : ResultVar) : SimAt P Pm ρ s w (aresult C x.t r) (resultOf a.tmps r) VRel := by
  cases r with
  | tmp i =>
    unfold aresult resultOf
    refine sim_ofOption fun v hv => ?_
    obtain ⟨v', h1, h2⟩ := ha.tmps i v hv
    refine sim_pure ?_
    simp only [Array.getD_eq_getD_getElem?, h1, Option.getD_some]
    exact h2
  | cell i ty =>
    unfold aresult resultOf
    dsimp only
    split
    · rename_i ad hv
      obtain ⟨v', h1, h2⟩ := ha.tmps i _ hv
      simp only [Array.getD_eq_getD_getElem?, h1, Option.getD_some]
      cases h2 with
      | ptr hp =>
        refine sim_pre (y := _) (c := asAddr _) rfl ?_
        exact sim_loadVar hC ty ⟨_, hp, rfl, rfl⟩
    · exact sim_fail
theorem sim_resultL (hC : C.Ok P) {x : AAct} {a : Act} (ha : ActRel ρ nt x a) (l : List ResultVar) : SimAt P Pm ρ s w (aresultL C x.t l) (l.mapM (resultOf a.tmps)) VRels := by
  induction l generalizing ρ s w with
  | nil => exact sim_pure .nil
  | cons r l ih =>
    rw [List.mapM_cons]
    unfold aresultL
    refine sim_bind (sim_result hC ha r) ?_
    intro ρ1 s1 w1 v v' e1 hv
    refine sim_bind (ih (ha.ext e1)) ?_
    intro ρ2 s2 w2 vs vs' e2 hvs
    exact sim_pure (.cons (hv.ext e2) hvs)
theorem results_eq (fn : Func) (tmps : Array Value) : results fn tmps = (do
    let vs ← fn.results.toList.mapM (resultOf tmps)
    pure (if h : vs.toArray.size = 1 then vs.toArray[0] else .tuple vs.toArray)) := by
  have : results fn tmps = (do
    let vs ← fn.results.mapM (resultOf tmps)
    pure (if h : vs.size = 1 then vs[0] else .tuple vs)) := rfl
  rw [this, Array.mapM_eq_mapM_toList, bind_map_left]
theorem sim_results (hC : C.Ok P) {x : AAct} {a : Act} (ha : ActRel ρ nt x a) (fn : Func) : SimAt P Pm ρ s w (aresults C x.t fn.results.toList) (results fn a.tmps) VRel := by
  rw [results_eq]
  unfold aresults
  refine sim_bind (sim_resultL hC ha fn.results.toList) ?_
  intro ρ1 s1 w1 vs vs' e1 hvs
  cases hvs with
  | nil => exact sim_pure (.tuple .nil)
  | cons h1 h2 =>
    cases h2 with
    | nil => exact sim_pure h1
    | cons h2 h3 =>
      refine sim_pure ?_
      rw [dif_neg (by simp)]
      exact .tuple (.cons h1 (.cons h2 h3))
end

/-! It leaves the world as it is. -/
def Still (P : Program) {α : Type} (c : Sem α) : Prop := ∀ w v w', c.run P w = .ok v w' → w' = w
theorem still_pure {P : Program} {α : Type} (x : α) : Still P (pure x : Sem α) := by
  intro w v w' h; cases h; rfl
theorem still_bind {P : Program} {α β : Type} {c : Sem α} {g : α → Sem β} (h : Still P c) (k : ∀ x, Still P (g x)) : Still P (c >>= g) := by
  intro w v w' e
  rw [Sem.run_bind] at e
  cases hc : c.run P w with
  | halt x w1 => rw [hc] at e; cases e
  | ok x w1 =>
    rw [hc] at e
    dsimp only at e
    rw [k x _ _ _ e, h _ _ _ hc]
theorem still_stuck {P : Program} {α : Type} (m : String) : Still P (stuck m : Sem α) := by intro w v w' h; cases h
theorem still_underlying {P : Program} (t : TypeId) : Still P (underlying t) := by
  unfold underlying
  refine still_bind (by intro w v w' h; cases h; rfl) fun p => ?_
  cases p.underlying t with
  | none => exact still_stuck _
  | some d => exact still_pure d
theorem still_typeInfo {P : Program} (t : TypeId) : Still P (typeInfo t) := by
  unfold typeInfo
  refine still_bind (by intro w v w' h; cases h; rfl) fun p => ?_
  cases p.info? t with
  | none => exact still_stuck _
  | some d => exact still_pure d
theorem still_load {P : Program} (a : Addr) (m : Mode) : Still P (load a m) := by
  intro w v w' h
  unfold load at h
  simp only [Sem.run] at h
  split at h
  · cases h; rfl
  · split at h
    · cases h; rfl
    · cases h
theorem still_loadFrom {P : Program} (a : Addr) (n : Nat) : ∀ (i : Nat) (acc : Array Value), Still P (loadCellsFrom a i n acc) := by
  induction n with
  | zero => intro i acc; exact still_pure acc
  | succ n ih => intro i acc; exact still_bind (still_load _ _) fun v => ih _ _
theorem still_loadVar {P : Program} (t : TypeId) (a : Addr) : Still P (loadVar t a) := by
  unfold loadVar isAgg sizeOf
  refine still_bind (still_bind (still_underlying t) fun d => ?_) fun b => ?_
  · cases d <;> exact still_pure _
  · cases b with
    | true => exact still_bind (still_bind (still_typeInfo t) fun i => still_pure _) fun n => still_bind (still_loadFrom _ _ _ _) fun c => still_pure _
    | false => exact still_load _ _
theorem still_result {P : Program} (tmps : Array Value) (r : ResultVar) : Still P (resultOf tmps r) := by
  cases r with
  | tmp t => exact still_pure _
  | cell a t =>
    unfold resultOf
    refine still_bind ?_ fun ad => still_loadVar t ad
    generalize tmps.getD a undef = v
    unfold asAddr
    split
    · exact still_pure _
    · intro w v w' h; cases h
    · exact still_stuck _
theorem still_results {P : Program} (fn : Func) (tmps : Array Value) : Still P (results fn tmps) := by
  rw [results_eq]
  refine still_bind ?_ fun vs => still_pure _
  induction fn.results.toList with
  | nil => exact still_pure _
  | cons r l ih =>
    rw [List.mapM_cons]
    exact still_bind (still_result tmps r) fun v => still_bind ih fun vs => still_pure _

/-! ### 2. How a call begins -/
def tmpsOf : Nat → List Value → Tr Value
  | _, [] => .leaf
  | k, v :: l => (tmpsOf (k + 1) l).set k v
theorem tmpsOf_get : ∀ {l : List Value} {k i : Nat} {v : Value}, (tmpsOf k l).get i = some v → k ≤ i ∧ l[i - k]? = some v
  | [], k, i, v, h => by rw [show tmpsOf _ [] = .leaf from rfl, Tr.get_leaf] at h; cases h
  | u :: l, k, i, v, h => by
    unfold tmpsOf at h
    rw [Tr.get_set] at h
    split at h
    · rename_i e
      subst e
      cases h
      exact ⟨Nat.le_refl _, by simp⟩
    · rename_i hne
      obtain ⟨h1, h2⟩ := tmpsOf_get h
      refine ⟨by omega, ?_⟩
      rw [show i - k = (i - (k + 1)) + 1 by omega]
      simpa using h2
theorem tmpsOf_rel {ρ : Rho} {args : List Value} {args' : Array Value} (h : VRels ρ args args'.toList) {nt : Nat} (hn : args.length ≤ nt) :
    ActRel ρ nt ⟨tmpsOf 0 args, []⟩ { tmps := args' ++ Array.replicate (nt - args'.size) undef, defers := [] } := by
  have hl := h.length
  refine ⟨by simp at hl ⊢; omega, ?_, .nil⟩
  intro t v hv
  obtain ⟨_, h2⟩ := tmpsOf_get hv
  obtain ⟨v', h3, h4⟩ := h.get _ _ h2
  refine ⟨v', ?_, h4⟩
  simp only [Nat.sub_zero] at h3
  have hlt : t < args'.size := by
    rcases Nat.lt_or_ge t args'.toList.length with h5 | h5
    · simpa using h5
    · rw [List.getElem?_eq_none h5] at h3; cases h3
  rw [Array.getElem?_append_left hlt]
  simpa using h3

/-! ### 3. Deferred calls -/
inductive AMode where
  | returning
  | panicking (v : Value)
  | recovered (v : Value)
inductive ModeRel (ρ : Rho) : AMode → FrameMode → Prop
  | returning : ModeRel ρ .returning .returning
  | panicking {v v' : Value} : VRel ρ v v' → ModeRel ρ (.panicking v) (.panicking [{ v := v', recovered := false }])
  | recovered {v v' : Value} : VRel ρ v v' → ModeRel ρ (.recovered v) (.panicking [{ v := v', recovered := true }])
theorem ModeRel.ext {ρ ρ' : Rho} (k : Rho.ext ρ ρ') {m : AMode} {u : FrameMode} (h : ModeRel ρ m u) : ModeRel ρ' m u := by
  cases h with
  | returning => exact .returning
  | panicking h => exact .panicking (h.ext k)
  | recovered h => exact .recovered (h.ext k)
def arecover : AMode → Value × AMode
  | .returning => (.nilIface, .returning)
  | .panicking v => (v, .recovered v)
  | .recovered v => (.nilIface, .recovered v)
def asettle : AMode → AMode
  | .recovered _ => .returning
  | m => m
def isRecover (o : Oper) : Bool := match o.op, o.guard with
  | .call c, none => match c.callee with
    | .builtin .recover => true
    | _ => false
  | _, _ => false

section
variable (C : Ctx) (call : FuncId → List Value → A AEnd) (fuel : Nat)
def acallD (f : FuncId) (args : List Value) (u : AMode) : A AMode :=
  match C.fn f with
  | none => A.fail
  | some fn => match Nat.ble args.length fn.ntmps with
    | false => A.fail
    | true => match fn.body with
      | some (.seq (.region _ ops false) rest) => match ops.toList with
        | o :: os => match isRecover o with
          | false => A.fail
          | true => match aput fn.ntmps ⟨tmpsOf 0 args, []⟩ o.dst (arecover u).1 with
            | none => A.fail
            | some x1 => do
              let r ← aops C call fn.ntmps ops.toList os x1
              match r.1 with
              | some _ => A.fail
              | none => do
                let q ← acode C call fn.ntmps fuel rest r.2
                match q.1, q.2.d with
                | .normal, [] => do
                  let _ ← aresults C q.2.t fn.results.toList
                  pure (asettle (arecover u).2)
                | .ret, [] => do
                  let _ ← aresults C q.2.t fn.results.toList
                  pure (asettle (arecover u).2)
                | _, _ => A.fail
        | [] => A.fail
      | _ => A.fail
end
section
variable (C : Ctx) (call : FuncId → List Value → A AEnd) (fuel : Nat)
def aleaves (fn : Func) (t : Tr Value) : List ADef → AMode → A AEnd
  | [], .returning => do
    let v ← aresults C t fn.results.toList
    pure (.returned v)
  | [], .panicking v => pure (.panicked v)
  | [], .recovered _ => A.fail
  | d :: ds, u => do
    let u' ← acallD C call fuel d.f (d.args ++ d.cap) u
    aleaves fn t ds u'
end
section
variable (C : Ctx) (call : FuncId → List Value → A AEnd) (fuel : Nat)
def abody (f : FuncId) (args : List Value) : A AEnd :=
  match C.fn f with
  | none => A.fail
  | some fn => match Nat.ble args.length fn.ntmps with
    | false => A.fail
    | true => match fn.body with
      | none => A.fail
      | some c => do
        let q ← acode C call fn.ntmps fuel c ⟨tmpsOf 0 args, []⟩
        match q.1 with
        | .normal => aleaves C call fuel fn q.2.t q.2.d .returning
        | .ret => aleaves C call fuel fn q.2.t q.2.d .returning
        | .panic v => aleaves C call fuel fn q.2.t q.2.d (.panicking v)
        | .exit _ => A.fail
end

section
variable {P : Program} {C : Ctx} {call : FuncId → List Value → A AEnd} {nt fuel : Nat} {Pm : Nat → Prop} {ρ : Rho} {s s' : AS} {w : World}

theorem wpOpsS_of_wpOps {ops : Array Oper} {Q : Exit → Act → World → Prop} (hno : ¬ LetsOut Q) {cs : List Frame} : ∀ (l : List Nat) (a : Act) (w : World), wpOps P ops Q l a w →
    wpOpsS P ops (fun e a cs' w => Q e a w ∧ cs' = cs) l a cs w := by
  intro l
  induction l with
  | nil => intro a w h; exact ⟨h, rfl⟩
  | cons i l ih =>
    intro a w h
    unfold wpOps at h
    unfold wpOpsS
    cases ho : ops[i]? with
    | none => rw [ho] at h; exact ih a w h
    | some o =>
      rw [ho] at h
      dsimp only at h ⊢
      by_cases hw : Region.wanted o (yielded ops a.tmps) = true
      · rw [if_pos hw] at h ⊢
        rcases h with h | ⟨_, h⟩
        · unfold Oper.wp at h
          generalize (execOp a.eval o).run P w = r at h ⊢
          have hmono : o.upon P a (fun a' w' => wpOpsS P ops (fun e a cs' w => Q e a w ∧ cs' = cs) l a' cs w') (fun e a' w' => Q e a' w' ∧ cs = cs) r := by
            cases r with
            | ok n w' =>
              cases n <;> simp only [Oper.upon] at h ⊢ <;>
                first
                  | exact ih _ _ h
                  | (refine Calls.mono h ?_
                     intro e w'' he
                     cases e with
                     | returned v => exact ih _ _ he
                     | panicked ch => first | exact ⟨he, rfl⟩ | exact ⟨he, trivial⟩
                     | outgrown => exact absurd he hno)
                  | exact Rows.mono h (fun _ _ he => ih _ _ he)
            | halt x w' => cases x <;> simp only [Oper.upon] at h ⊢ <;> first | exact ⟨h, rfl⟩ | exact ⟨h, trivial⟩
          cases r with
          | ok n w' =>
            cases n <;> first
              | exact hmono
              | exact absurd h (by simp [Oper.upon])
          | halt x w' => exact hmono
        · exact absurd h hno
      · rw [if_neg hw] at h ⊢
        exact ih _ _ h

theorem wpOpsS_mono {ops : Array Oper} {Q Q' : Exit → Act → List Frame → World → Prop} (hq : ∀ e a cs w, Q e a cs w → Q' e a cs w) : ∀ (l : List Nat) (a : Act) (cs : List Frame) (w : World), wpOpsS P ops Q l a cs w →
    wpOpsS P ops Q' l a cs w := by
  intro l
  induction l with
  | nil => intro a cs w h; exact hq _ _ _ _ h
  | cons i l ih =>
    intro a cs w h
    unfold wpOpsS at h ⊢
    cases ho : ops[i]? with
    | none => rw [ho] at h; exact ih a cs w h
    | some o =>
      rw [ho] at h
      dsimp only at h ⊢
      by_cases hw : Region.wanted o (yielded ops a.tmps) = true
      · rw [if_pos hw] at h ⊢
        generalize (execOp a.eval o).run P w = r at h ⊢
        have lo : LetsOut (fun e a' w' => Q e a' cs w') → LetsOut (fun e a' w' => Q' e a' cs w') := fun ⟨a, w, h⟩ => ⟨a, w, hq _ _ _ _ h⟩
        have hmono : o.upon P a (fun a' w' => wpOpsS P ops Q l a' cs w') (fun e a' w' => Q e a' cs w') r → o.upon P a (fun a' w' => wpOpsS P ops Q' l a' cs w') (fun e a' w' => Q' e a' cs w') r := by
          intro h
          cases r with
          | ok n w' =>
            cases n <;> simp only [Oper.upon] at h ⊢ <;>
              first
                | exact ih _ _ _ h
                | (refine Calls.mono h ?_
                   intro e w'' he
                   cases e with
                   | returned v => exact ih _ _ _ he
                   | panicked ch => exact hq _ _ _ _ he
                   | outgrown => exact lo he)
                | exact Rows.mono h (fun _ _ he => ih _ _ _ he)
          | halt x w' => cases x <;> simp only [Oper.upon] at h ⊢ <;> exact hq _ _ _ _ h
        cases r with
        | ok n w' =>
          cases n <;> first
            | exact hmono h
            | (dsimp only at h ⊢
               split at h
               · exact ih _ _ _ h
               · exact ih _ _ _ h)
        | halt x w' => exact hmono h
      · rw [if_neg hw] at h ⊢
        exact ih _ _ _ h

theorem recoverD_rel {m : AMode} {u : FrameMode} (h : ModeRel ρ m u) (c₀ : Frame) (hc : c₀.mode = u) (cs : List Frame) :
    ∃ v' u', VRel ρ (arecover m).1 v' ∧ ModeRel ρ (arecover m).2 u' ∧
      ((recoverD (c₀ :: cs) = some (v', { c₀ with mode := u' } :: cs)) ∨ (recoverD (c₀ :: cs) = none ∧ v' = .nilIface ∧ { c₀ with mode := u' } = c₀)) := by
  cases h with
  | returning =>
    refine ⟨.nilIface, .returning, .niface, .returning, .inr ⟨?_, rfl, ?_⟩⟩
    · simp [recoverD, hc]
    · rw [← hc]
  | @panicking v v' h =>
    refine ⟨v', _, h, .recovered h, .inl ?_⟩
    simp [recoverD, hc]
  | @recovered v v' h =>
    refine ⟨.nilIface, _, .niface, .recovered h, .inr ⟨?_, rfl, ?_⟩⟩
    · simp [recoverD, hc]
    · rw [← hc]
theorem settle_rel {m : AMode} {u : FrameMode} (h : ModeRel ρ m u) : ModeRel ρ (asettle m) (settle u) := by
  cases h with
  | returning => exact .returning
  | panicking h => exact .panicking h
  | recovered h => exact .returning
theorem ModeRel.ne_run {m : AMode} {u : FrameMode} (h : ModeRel ρ m u) : u ≠ .run := by cases h <;> simp

theorem callD_ok (hC : C.Ok P) (hcall : CallOk P call) (hf : P.follows .mixedOrders = true) {f : FuncId} {args : List Value} {args' : Array Value} (hargs : VRels ρ args args'.toList) {m : AMode} {u : FrameMode}
    (hu : ModeRel ρ m u) {m' : AMode} (h : (acallD C call fuel f args m).run s = some (m', s')) (hp : Pre Pm ρ s w s') {R : Ending → FrameMode → World → Prop}
    (hR : ∀ ρ' v u' w', Step Pm ρ s w ρ' s' w' → ModeRel ρ' m' (settle u') → R (.returned v) u' w') :
    CallsD P f args' u w R := by
  unfold acallD at h
  split at h
  · cases h
  rename_i fn hfn
  split at h
  · cases h
  rename_i hlen
  have hlen := Nat.le_of_ble_eq_true hlen
  split at h
  · rename_i id ops rest hbody
    split at h
    · rename_i o os hops
      split at h
      · cases h
      rename_i hrec
      split at h
      · cases h
      rename_i x1 hx1
      obtain ⟨⟨r1, x2⟩, s1, h1, h2⟩ := A.bindRun_some h
      have m2 : s1.le s' := A.mono _ _ _ _ h2
      dsimp only at h2
      split at h2
      · cases h2
      obtain ⟨⟨e3, x3⟩, s3, h3, h4⟩ := A.bindRun_some h2
      have m4 : s3.le s' := A.mono _ _ _ _ h4
      dsimp only at h4
      refine callsD_of_wpS (hC.fn _ _ hfn) hbody ?_
      intro c₀ cs hc
      refine wpS_seq (wpS_region ?_)
      have hsz : ops.size = os.length + 1 := by rw [← Array.length_toList, hops]; rfl
      rw [hsz, List.range_eq_range', List.range'_succ]
      have ho : ops[0]? = some o := by
        have := congrArg (·[0]?) hops
        simpa using this
      -- the recover itself
      have ha0 := tmpsOf_rel hargs hlen
      obtain ⟨v', u', hv, hu', hcases⟩ := recoverD_rel hu c₀ hc cs
      unfold wpOpsS
      rw [ho]
      dsimp only
      have hguard : o.guard = none ∧ ∃ ar ts, o.op = .call ⟨.builtin .recover, ar, ts⟩ := by
        unfold isRecover at hrec
        split at hrec
        · rename_i c hop hg
          obtain ⟨callee, ar, ts⟩ := c
          dsimp only at hrec
          split at hrec
          · exact ⟨hg, _, _, hop⟩
          · cases hrec
        · cases hrec
      obtain ⟨hg, ar, ts, hop⟩ := hguard
      have hw : Region.wanted o (yielded ops (args' ++ Array.replicate (fn.ntmps - args'.size) undef)) = true := by
        unfold Region.wanted; rw [hg]
      rw [if_pos hw]
      have hexec : ∀ e w, (execOp e o).run P w = .ok .recover w := by
        intro e w
        unfold execOp
        rw [hop]
        rfl
      rw [hexec]
      dsimp only
      have hnext : wpOpsS P ops (Exit.thenS (rest.wpS P (bodyPostS P fn c₀ cs R)) (bodyPostS P fn c₀ cs R)) (List.range' (0 + 1) os.length) (({ tmps := args' ++ Array.replicate (fn.ntmps - args'.size) undef, defers := [] } : Act).put o.dst v') ({ c₀ with mode := u' } :: cs) w := by
        have ha1 := aput_rel hx1 ha0 hv
        have hd : ops.toList.drop 1 = os := by rw [hops]; rfl
        have hops1 := ops_ok (Q := fun e a w => Exit.thenS (rest.wpS P (bodyPostS P fn c₀ cs R)) (bodyPostS P fn c₀ cs R) e a ({ c₀ with mode := u' } :: cs) w ∧ e ≠ .outgrown) (ops := ops) hC hcall os.length 1 (by omega) ha1 (by rw [hd]; exact h1) (hp.first m2) ?_
        · have := wpOpsS_of_wpOps (cs := { c₀ with mode := u' } :: cs) (by rintro ⟨a, w, _, h⟩; exact h rfl) _ _ _ hops1
          revert this
          generalize (({ tmps := args' ++ Array.replicate (fn.ntmps - args'.size) undef, defers := [] } : Act).put o.dst v') = a0
          generalize w = w0
          intro this
          refine wpOpsS_mono ?_ _ _ _ _ this
          rintro e a cs' w ⟨⟨h, _⟩, rfl⟩
          exact h
        · intro ρ1 e' a1 w1 st1 hr1
          cases hr1 with
          | on ha2 =>
            refine ⟨?_, by simp⟩
            show rest.wpS P _ a1 _ w1
            have hp1 := hp.next (A.mono _ _ _ _ h1) st1
            refine wpS_of_wp (code_ok hC hcall hf rest ha2 h3 (hp1.first m4) ?_)
            intro ρ2 e2 a2 w2 st2 he ha3
            have st := st1.trans st2 (A.mono _ _ _ _ h1).n (A.mono _ _ _ _ h3).n
            have hp2 := hp1.next (A.mono _ _ _ _ h3) st2
            have fin : x3.d = [] → (do let _ ← aresults C x3.t fn.results.toList; pure (asettle (arecover m).2) : A AMode).run s3 = some (m', s') →
                a2.defers = [] ∧ ∃ u'', ({ c₀ with mode := u' } :: cs : List Frame) = { c₀ with mode := u'' } :: cs ∧ ∃ v, (results fn a2.tmps).run P w2 = .ok v w2 ∧ R (.returned v) u'' w2 := by
              intro hd hz
              obtain ⟨v5, s5, h5, h6⟩ := A.bindRun_some hz
              cases h6
              obtain ⟨ρ3, v6, w3, e6, st3, hv6⟩ := sim_results (Pm := Pm) hC ha3 fn v5 s' h5 hp2
              have hw3 := still_results fn a2.tmps w2 v6 w3 e6
              subst hw3
              have hdd : a2.defers = [] := by
                have := ha3.defers
                rw [hd] at this
                generalize a2.defers = dd at this
                cases this
                rfl
              have stt := st.trans st3 (Nat.le_trans (A.mono _ _ _ _ h1).n (A.mono _ _ _ _ h3).n) (A.mono _ _ _ _ h5).n
              exact ⟨hdd, u', rfl, v6, e6, hR ρ3 v6 u' w3 stt (settle_rel (hu'.ext stt.ext))⟩
            cases he with
            | normal =>
              cases hd : x3.d with
              | nil => rw [hd] at h4; exact fin hd h4
              | cons d ds => rw [hd] at h4; cases h4
            | ret =>
              cases hd : x3.d with
              | nil => rw [hd] at h4; exact fin hd h4
              | cons d ds => rw [hd] at h4; cases h4
            | exit id => cases h4
            | panic _ => cases h4
      rcases hcases with hc1 | ⟨hc1, rfl, hc2⟩
      · rw [hc1]; exact hnext
      · rw [hc1]
        dsimp only
        rw [hc2] at hnext
        exact hnext
    · cases h
  · cases h
end
end
end Go.Proofs.BhE
