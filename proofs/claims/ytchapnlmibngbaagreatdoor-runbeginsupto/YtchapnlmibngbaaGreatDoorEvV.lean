/- A closed call is sound. -/
import Derived.Test.YtchapnlmibngbaaGreatDoorEvZ2
set_option linter.all false
namespace Go.Proofs.BhE
open Go
noncomputable section

section
variable {P : Program} {C : Ctx} {call : FuncId → List Value → A AEnd} {nt fuel : Nat} {Pm : Nat → Prop}

theorem run_callFunc_enter (hC : C.Ok P) {f : FuncId} {fn : Func} {c : Code} (hf : C.fn f = some fn) (hb : fn.body = some c) (args : Array Value) (w : World) :
    (callFunc f args).run P w = .ok (.enter f args) w := by
  unfold callFunc
  rw [Sem.run_bind]
  simp only [Go.program, Sem.run]
  rw [hC.fn _ _ hf]
  have hn := hC.name _ _ hf
  simp only [hn, Bool.false_eq_true, if_false, hb, Option.isNone_some]
  rfl

theorem acallD_fn {f : FuncId} {args : List Value} {u : AMode} {s s' : AS} {m : AMode} (h : (acallD C call fuel f args u).run s = some (m, s')) : ∃ fn c, C.fn f = some fn ∧ fn.body = some c := by
  unfold acallD at h
  split at h
  · cases h
  rename_i fn hfn
  split at h
  · cases h
  split at h
  · rename_i hb
    exact ⟨fn, _, hfn, hb⟩
  · cases h

theorem leaves_ok (hC : C.Ok P) (hcall : CallOk P call) (hf : P.follows .mixedOrders = true) {fn : Func} : ∀ (ds : List ADef) {ρ : Rho} {s s' : AS} {w : World} {x : AAct} {a : Act} {ds' : List Deferred} {m : AMode} {u : FrameMode} {e : AEnd} {R : Ending → World → Prop},
    ActRel ρ nt x a → DefsRel ρ ds ds' → ModeRel ρ m u → (aleaves C call fuel fn x.t ds m).run s = some (e, s') → Pre Pm ρ s w s' →
    (∀ ρ' e' w', Step Pm ρ s w ρ' s' w' → EndRel ρ' e e' → R e' w') → Leaves P fn a.tmps R ds' u w := by
  intro ds
  induction ds with
  | nil =>
    intro ρ s s' w x a ds' m u e R ha hd hm h hp hR
    cases hd
    cases hm with
    | returning =>
      unfold aleaves at h
      obtain ⟨v, s1, h1, h2⟩ := A.bindRun_some h
      cases h2
      obtain ⟨ρ1, v1, w1, e1, st, hv⟩ := sim_results (Pm := Pm) hC ha fn v s' h1 hp
      have hw := still_results fn a.tmps w v1 w1 e1
      subst hw
      exact ⟨v1, e1, hR ρ1 _ w1 st (.returned hv)⟩
    | panicking hv =>
      cases h
      exact hR ρ _ w (Step.refl hp) (.panicked hv)
    | recovered hv => cases h
  | cons d ds ih =>
    intro ρ s s' w x a ds' m u e R ha hd hm h hp hR
    cases hd with
    | @cons _ y _ l' hy hl =>
      obtain ⟨args', cap', rfl, h1, h2⟩ := hy
      unfold aleaves at h
      obtain ⟨m1, s1, h3, h4⟩ := A.bindRun_some h
      have m4 : s1.le s' := A.mono _ _ _ _ h4
      obtain ⟨fn', c, hfn', hb'⟩ := acallD_fn h3
      refine ⟨hm.ne_run, .func d.f, cap', d.f, args' ++ cap', rfl, run_callFunc_enter hC hfn' hb' _ _, ?_⟩
      have hargs : VRels ρ (d.args ++ d.cap) (args' ++ cap').toList := by
        have := h1.append h2
        simpa using this
      refine callD_ok hC hcall hf hargs hm h3 (hp.first m4) ?_
      intro ρ1 v u' w1 st1 hm1
      dsimp only
      exact ih (ha.ext st1.ext) (hl.ext st1.ext) hm1 h4 (hp.next (A.mono _ _ _ _ h3) st1) fun ρ2 e2 w2 st2 => hR ρ2 e2 w2 (st1.trans st2 (A.mono _ _ _ _ h3).n m4.n)

theorem body_ok (hC : C.Ok P) (hcall : CallOk P call) (hf : P.follows .mixedOrders = true) : CallOk P (abody C call fuel) := by
  intro f args args' Pm ρ s w hargs e s' h hp
  unfold abody at h
  split at h
  · cases h
  rename_i fn hfn
  split at h
  · cases h
  rename_i hlen
  have hlen := Nat.le_of_ble_eq_true hlen
  split at h
  · cases h
  rename_i c hb
  obtain ⟨⟨q1, x1⟩, s1, h1, h2⟩ := A.bindRun_some h
  have m2 : s1.le s' := A.mono _ _ _ _ h2
  refine calls_of_wp_defers (hC.fn _ _ hfn) hb (code_ok hC hcall hf c (tmpsOf_rel hargs hlen) h1 (hp.first m2) ?_)
  intro ρ1 e1 a1 w1 st1 he ha1
  have hp1 := hp.next (A.mono _ _ _ _ h1) st1
  have fin : ∀ ρ' e' w', Step Pm ρ1 s1 w1 ρ' s' w' → EndRel ρ' e e' → ∃ ρ', Step Pm ρ s w ρ' s' w' ∧ EndRel ρ' e e' :=
    fun ρ' e' w' st2 hr => ⟨ρ', st1.trans st2 (A.mono _ _ _ _ h1).n m2.n, hr⟩
  cases he with
  | normal => exact leaves_ok hC hcall hf x1.d ha1 ha1.defers .returning h2 hp1 fin
  | ret => exact leaves_ok hC hcall hf x1.d ha1 ha1.defers .returning h2 hp1 fin
  | panic hv => exact leaves_ok hC hcall hf x1.d ha1 ha1.defers (.panicking hv) h2 hp1 fin
  | exit id => cases h2

/-- A call, its callees being known. -/
def acall1 (C : Ctx) (call : FuncId → List Value → A AEnd) (loops : Nat) (f : FuncId) (args : List Value) : A AEnd := afin args (asettleEnd C f (abody C call loops f args))
theorem call1_ok (hC : C.Ok P) (hcall : CallOk P call) (hf : P.follows .mixedOrders = true) {loops : Nat} : CallOk P (acall1 C call loops) :=
  fun f args args' _ _ _ _ hargs => fin_ok (fun Pm ρ s w h => settleEnd_ok (body_ok hC hcall hf f args args' Pm ρ s w h)) hargs

/-- Calls, with what is known of some functions beforehand. -/
def acall (C : Ctx) (orc : FuncId → List Value → Option (A AEnd)) (loops : Nat) : Nat → FuncId → List Value → A AEnd
  | 0, _, _ => A.fail
  | n + 1, f, args => match orc f args with
    | some m => m
    | none => acall1 C (acall C orc loops n) loops f args

def OrcOk (P : Program) (orc : FuncId → List Value → Option (A AEnd)) : Prop :=
  ∀ f args m args' Pm ρ s w, orc f args = some m → VRels ρ args (Array.toList args') → SimCall P Pm ρ s w m f args'

theorem call_ok (hC : C.Ok P) {orc : FuncId → List Value → Option (A AEnd)} (ho : OrcOk P orc) (hf : P.follows .mixedOrders = true) {loops : Nat} : ∀ n, CallOk P (acall C orc loops n) := by
  intro n
  induction n with
  | zero => intro f args args' Pm ρ s w _ e s' h; cases h
  | succ n ih =>
    intro f args args' Pm ρ s w hargs
    show SimCall P Pm ρ s w (match orc f args with
      | some m => m
      | none => acall1 C (acall C orc loops n) loops f args) f args'
    cases hm : orc f args with
    | some m => exact ho f args m args' Pm ρ s w hm hargs
    | none => exact call1_ok hC ih hf f args args' Pm ρ s w hargs
end

/-! ### What is shown of a call whose arguments lead nowhere -/
def AS.empty : AS := ⟨.leaf, 0, 0, [], []⟩

/-- Called so, a function hands back that; all else is as it was. -/
def PureFn (P : Program) (f : FuncId) (args : List Value) (e : AEnd) : Prop :=
  ∀ Pm ρ s w args', VRels ρ args (Array.toList args') → SimCall P Pm ρ s w (A.ret e) f args'

theorem pure_of_run {P : Program} {f : FuncId} {args : List Value} {m : A AEnd} (hm : ∀ Pm ρ s w args', VRels ρ args (Array.toList args') → SimCall P Pm ρ s w m f args') {e : AEnd}
    (h : (m.run AS.empty).map (·.1) = some e) (ha : args.all (below 0 4) = true) (hv : endBelow 0 e = true) : PureFn P f args e := by
  intro Pm ρ s w args' hargs x s' hx hp
  cases hx
  obtain ⟨⟨e1, s1⟩, hr, he⟩ := Option.map_eq_some_iff.1 h
  obtain rfl : e1 = e := he
  let ρ0 : Rho := ⟨fun _ => none, ρ.fz⟩
  have hargs0 : VRels ρ0 args args'.toList := VRels.move (S := fun i => i < 0) (ρ1 := ρ) (ρ2 := ρ0) (fun i hi => absurd hi (Nat.not_lt_zero i)) (fun _ _ h => h) hargs (belows_ids ha hargs)
  have hpre : Pre (fun _ => True) ρ0 AS.empty w s1 := by
    refine ⟨⟨?_, ?_, hp.rep.fz, ?_⟩, Nat.le_refl _, fun _ _ _ => rfl, fun i _ => Tr.get_leaf i, fun _ _ => trivial, fun _ _ => trivial, fun _ _ _ => trivial⟩
    · intro i o _ h; rw [show AS.empty.h = .leaf from rfl, Tr.get_leaf] at h; cases h
    · intro i j p q _ _ ⟨o, g, _⟩; rw [show AS.empty.h = .leaf from rfl, Tr.get_leaf] at g; cases g
    · intro i p b o _ _ h; cases h
  refine (hm (fun _ => True) ρ0 AS.empty w args' hargs0 e1 s1 hr hpre).mono ?_
  rintro e' w' ⟨ρ1, st, her⟩
  have hold : ∀ b, b < w.heap.size → w'.heap[b]? = w.heap[b]? := fun b hb => st.frame b hb fun i p _ _ h => by cases h
  let ρ2 : Rho := ⟨ρ.at_, ρ1.fz⟩
  have hext : Rho.ext ρ ρ2 := ⟨fun _ _ h => h, fun b o h => st.ext.fz b o h⟩
  have hz : ∀ b o, ρ1.fz b = some o → ρ.fz b = some o ∨ w.heap.size ≤ b := by
    intro b o hb
    rcases st.newz b o hb with h1 | h1 | ⟨j, q, _, _, h1, _⟩
    · exact .inl h1
    · exact .inr h1
    · cases h1
  refine ⟨ρ2, ⟨⟨?_, hp.rep.inj, st.rep.fz, ?_⟩, hext, fun _ h _ => h, hp.new, fun _ _ h => h, st.size, fun b hb _ => hold b hb, fun i p hi hl hp1 => .inr ⟨i, p, hi, hl, hp1, rfl⟩, ?_, st.os, st.tape, st.output⟩, ?_⟩
  · intro i o hi hg
    have h := hp.rep.obj i o hi hg
    refine (h.other fun p hal hp1 => ?_).ext hext
    obtain ⟨q, h1, h2⟩ := h.has hal
    rw [hp1] at h1
    cases h1
    exact hold _ h2
  · intro i p b o hi hl hpi hb
    rcases hz b o hb with h1 | h1
    · exact hp.rep.off i p b o hi hl hpi h1
    · obtain ⟨ob, hg, hal⟩ := hl
      obtain ⟨q, h2, h3⟩ := (hp.rep.obj i ob hi hg).has hal
      have hpi : ρ i = some p := hpi
      rw [hpi] at h2
      cases h2
      omega
  · intro b o hb
    rcases hz b o hb with h1 | h1
    · exact .inl h1
    · exact .inr (.inl h1)
  · cases her with
    | returned hu => exact .returned (VRel.move (S := fun i => i < 0) (ρ1 := ρ1) (ρ2 := ρ2) (fun i hi => absurd hi (Nat.not_lt_zero i)) (fun _ _ h => h) hu (below_ids 0 5 hv hu))
    | panicked hu => exact .panicked (VRel.move (S := fun i => i < 0) (ρ1 := ρ1) (ρ2 := ρ2) (fun i hi => absurd hi (Nat.not_lt_zero i)) (fun _ _ h => h) hu (below_ids 0 5 hv hu))

/-- What is shown of the world. -/
theorem PureFn.calls {P : Program} {f : FuncId} {args : List Value} {e : AEnd} (h : PureFn P f args e) {args' : Array Value} (hargs : VRels ⟨fun _ => none, fun _ => none⟩ args args'.toList) (w : World) :
    Calls P f args' w fun e' w' => (∃ ρ', EndRel ρ' e e') ∧ w.heap.size ≤ w'.heap.size ∧ (∀ b, b < w.heap.size → w'.heap[b]? = w.heap[b]?) ∧ w'.os = w.os ∧ w'.tape = w.tape ∧ w'.output = w.output := by
  have hp : Pre (fun _ => True) ⟨fun _ => none, fun _ => none⟩ AS.empty w AS.empty := by
    refine ⟨⟨?_, ?_, ?_, ?_⟩, Nat.le_refl _, fun _ _ _ => rfl, fun i _ => Tr.get_leaf i, fun _ _ => trivial, fun _ _ => trivial, fun _ _ _ => trivial⟩
    · intro i o _ h; rw [show AS.empty.h = .leaf from rfl, Tr.get_leaf] at h; cases h
    · intro i j p q _ _ ⟨o, g, _⟩; rw [show AS.empty.h = .leaf from rfl, Tr.get_leaf] at g; cases g
    · intro b o h; cases h
    · intro i p b o _ _ h; cases h
  refine (h (fun _ => True) _ AS.empty w args' hargs e AS.empty rfl hp).mono ?_
  rintro e' w' ⟨ρ', st, her⟩
  exact ⟨⟨ρ', her⟩, st.size, fun b hb => st.frame b hb (fun i p _ _ h => by cases h), st.os, st.tape, st.output⟩

/-! ### What is known beforehand -/
def orcNil : FuncId → List Value → Option (A AEnd) := fun _ _ => none
theorem orcNil_ok {P : Program} : OrcOk P orcNil := by intro f args m args' Pm ρ s w hm; cases hm
/-- A function of closed values, known for some arguments. -/
def orcFn (f : Nat) (F : List Value → Option Value) (orc : FuncId → List Value → Option (A AEnd)) : FuncId → List Value → Option (A AEnd) := fun g args =>
  match Nat.beq g f with
  | true => match F args with
    | some v => some (A.ret (.returned v))
    | none => orc g args
  | false => orc g args
theorem orcFn_ok {P : Program} {f : Nat} {F : List Value → Option Value} {orc : FuncId → List Value → Option (A AEnd)} (ho : OrcOk P orc) (h : ∀ args v, F args = some v → PureFn P f args (.returned v)) : OrcOk P (orcFn f F orc) := by
  intro g args m args' Pm ρ s w hm hargs
  unfold orcFn at hm
  split at hm
  · rename_i hb
    rw [Nat.eq_of_beq_eq_true hb]
    split at hm
    · rename_i v hv
      cases hm
      exact h args v hv Pm ρ s w args' hargs
    · rw [Nat.eq_of_beq_eq_true hb] at hm
      exact ho _ args m args' Pm ρ s w hm hargs
  · exact ho g args m args' Pm ρ s w hm hargs

def eqBytes : List UInt8 → List UInt8 → Bool
  | [], [] => true
  | a :: l, b :: m => match Nat.beq a.toNat b.toNat with
    | true => eqBytes l m
    | false => false
  | _, _ => false
theorem eqBytes_spec : ∀ {l m : List UInt8}, eqBytes l m = true → l = m
  | [], [], _ => rfl
  | [], _ :: _, h => by cases h
  | _ :: _, [], h => by cases h
  | a :: l, b :: m, h => by
    unfold eqBytes at h
    split at h
    · rename_i hb
      rw [eqBytes_spec h, UInt8.toNat_inj.1 (Nat.eq_of_beq_eq_true hb)]
    · cases h
def eqL (f : Value → Value → Bool) : List Value → List Value → Bool
  | [], [] => true
  | a :: l, b :: m => match f a b with
    | true => eqL f l m
    | false => false
  | _, _ => false
theorem eqL_spec {f : Value → Value → Bool} (hf : ∀ a b, f a b = true → a = b) : ∀ {l m : List Value}, eqL f l m = true → l = m
  | [], [], _ => rfl
  | [], _ :: _, h => by cases h
  | _ :: _, [], h => by cases h
  | a :: l, b :: m, h => by
    unfold eqL at h
    split at h
    · rename_i hb
      rw [eqL_spec hf h, hf a b hb]
    · cases h
def eqV : Nat → Value → Value → Bool
  | 0, _, _ => false
  | d + 1, a, b => match a, b with
    | .int k a, .int k' b => decide (k = k') && decide (a = b)
    | .string x, .string y => eqBytes x.data.toList y.data.toList
    | .bool a, .bool b => decide (a = b)
    | .agg x, .agg y => eqL (eqV d) x.toList y.toList
    | .func (.yield k) x a, .func (.yield k') y b => Nat.beq k k' && eqL (eqV d) x.toList y.toList && a.toList.isEmpty && b.toList.isEmpty
    | .func (.func k) x a, .func (.func k') y b => Nat.beq k k' && eqL (eqV d) x.toList y.toList && eqL (eqV d) a.toList b.toList
    | .slice none n c, .slice none n' c' => Nat.beq n n' && Nat.beq c c'
    | _, _ => false
theorem toList_inj {x y : Array Value} (h : x.toList = y.toList) : x = y := by cases x; cases y; simp at h; rw [h]
theorem eqV_spec : ∀ (d : Nat) (a b : Value), eqV d a b = true → a = b := by
  intro d
  induction d with
  | zero => intro a b h; cases h
  | succ d ih =>
    intro a b h
    unfold eqV at h
    split at h
    · simp at h; rw [h.1, h.2]
    · rename_i x y
      have := eqBytes_spec h
      have e : x = y := by
        cases x with
        | mk x => cases y with
          | mk y => cases x; cases y; simp at this; rw [this]
      rw [e]
    · simp at h; rw [h]
    · rw [toList_inj (eqL_spec ih h)]
    · simp only [Bool.and_eq_true, List.isEmpty_iff] at h
      obtain ⟨⟨⟨h1, h2⟩, h3⟩, h4⟩ := h
      rename_i k x a k' y b
      rw [Nat.eq_of_beq_eq_true h1, toList_inj (eqL_spec ih h2), toList_inj (h3.trans h4.symm)]
    · simp only [Bool.and_eq_true] at h
      obtain ⟨⟨h1, h2⟩, h3⟩ := h
      rw [Nat.eq_of_beq_eq_true h1, toList_inj (eqL_spec ih h2), toList_inj (eqL_spec ih h3)]
    · simp only [Bool.and_eq_true] at h
      rw [Nat.eq_of_beq_eq_true h.1, Nat.eq_of_beq_eq_true h.2]
    · cases h
/-- A table. -/
def tabF : List (List Value × Value) → List Value → Option Value
  | [], _ => none
  | (a, v) :: rest, args => match eqL (eqV 12) args a with
    | true => some v
    | false => tabF rest args
theorem tabF_spec {p : List Value → Value → Prop} : ∀ {l : List (List Value × Value)}, (∀ e ∈ l, p e.1 e.2) → ∀ args v, tabF l args = some v → p args v
  | [], _, args, v, h => by cases h
  | (a, u) :: rest, hl, args, v, h => by
    unfold tabF at h
    split at h
    · rename_i hb
      cases h
      rw [eqL_spec (eqV_spec 12) hb]
      exact hl _ List.mem_cons_self
    · exact tabF_spec (fun e he => hl e (List.mem_cons_of_mem _ he)) args v h

/-- What a call of closed arguments hands back. -/
def ansOf (args : List Value) : Option (AEnd × AS) → Option Value
  | some (.returned v, _) => match args.all (below 0 4) && below 0 5 v with
    | true => some v
    | false => none
  | _ => none
theorem ansOf_ok {P : Program} {C : Ctx} (hC : C.Ok P) {orc : FuncId → List Value → Option (A AEnd)} (ho : OrcOk P orc) (hf : P.follows .mixedOrders = true) {loops n : Nat} {f : FuncId} {args : List Value} {v : Value}
    (h : ansOf args ((acall C orc loops n f args).run AS.empty) = some v) : PureFn P f args (.returned v) := by
  cases hr : (acall C orc loops n f args).run AS.empty with
  | none => rw [hr] at h; cases h
  | some r =>
    rw [hr] at h
    obtain ⟨e, s1⟩ := r
    cases e with
    | panicked u => cases h
    | returned u =>
      simp only [ansOf] at h
      split at h
      · rename_i hc
        cases h
        simp only [Bool.and_eq_true] at hc
        exact pure_of_run (m := acall C orc loops n f args) (fun Pm ρ s w args' hargs => call_ok hC ho hf n f args args' Pm ρ s w hargs) (by rw [hr]; rfl) hc.1 hc.2
      · cases h
end
end Go.Proofs.BhE
