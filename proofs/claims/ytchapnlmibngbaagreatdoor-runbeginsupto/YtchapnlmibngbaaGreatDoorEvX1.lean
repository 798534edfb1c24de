/- Runs with names in them: what a run comes to, step by step. -/
import Derived.Test.YtchapnlmibngbaaGreatDoorEvZ3
set_option linter.all false
namespace Go.Proofs.BhE
open Go
noncomputable section

/-! ### 1. What a run comes to -/
def W {α : Type} (a : A α) (s : AS) (Q : α → AS → Prop) : Prop := ∃ x s', a.run s = some (x, s') ∧ Q x s'
theorem W.mono {α : Type} {a : A α} {s : AS} {Q Q' : α → AS → Prop} (h : W a s Q) (k : ∀ x s', Q x s' → Q' x s') : W a s Q' := by
  obtain ⟨x, s', h1, h2⟩ := h
  exact ⟨x, s', h1, k _ _ h2⟩
theorem W_pure {α : Type} (x : α) (s : AS) (Q : α → AS → Prop) : W (pure x : A α) s Q = Q x s := by
  refine propext ⟨fun ⟨y, s', h1, h2⟩ => ?_, fun h => ⟨x, s, rfl, h⟩⟩
  cases h1; exact h2
theorem W_ret {α : Type} (x : α) (s : AS) (Q : α → AS → Prop) : W (A.ret x : A α) s Q = Q x s := W_pure x s Q
theorem W_bind {α β : Type} (a : A α) (f : α → A β) (s : AS) (Q : β → AS → Prop) : W (a >>= f) s Q = W a s fun x s' => W (f x) s' Q := by
  refine propext ⟨?_, ?_⟩
  · rintro ⟨y, s2, h1, h2⟩
    obtain ⟨x, s1, h3, h4⟩ := A.bindRun_some (a := a) (f := f) h1
    exact ⟨x, s1, h3, y, s2, h4, h2⟩
  · rintro ⟨x, s1, h3, y, s2, h4, h2⟩
    refine ⟨y, s2, ?_, h2⟩
    show A.bindRun a f s = _
    unfold A.bindRun
    rw [h3]
    exact h4
theorem W_some {α : Type} (x : α) (s : AS) (Q : α → AS → Prop) : W (A.ofOption (some x)) s Q = Q x s := W_pure x s Q
theorem W_val (v : Value) (s : AS) (Q : ANext → AS → Prop) : W (aval (some v)) s Q = Q (.val v) s := by
  unfold aval; rw [W_bind, W_some, W_pure]
theorem W_valA (a : A Value) (s : AS) (Q : ANext → AS → Prop) : W (avalA a) s Q = W a s fun v s' => Q (.val v) s' := by
  unfold avalA; rw [W_bind]; simp only [W_pure]
theorem W_skip (a : A Unit) (s : AS) (Q : ANext → AS → Prop) : W (askip a) s Q = W a s fun _ s' => Q .skip s' := by
  unfold askip; rw [W_bind]; simp only [W_pure]

section
variable (C : Ctx) (call : FuncId → List Value → A AEnd) (nt fuel : Nat) (s : AS) (x : AAct) (Q : AExit × AAct → AS → Prop)
theorem W_seq (a b : Code) : W (acode C call nt fuel (.seq a b) x) s Q = W (acode C call nt fuel a x) s fun r s' => match r.1 with
    | .normal => W (acode C call nt fuel b r.2) s' Q
    | .exit id => Q (.exit id, r.2) s'
    | .ret => Q (.ret, r.2) s'
    | .panic v => Q (.panic v, r.2) s' := by
  rw [acode, W_bind]
  congr 1
  funext r s'
  obtain ⟨e, x'⟩ := r
  cases e <;> dsimp only <;> rw [W_pure]
theorem W_code_skip : W (acode C call nt fuel .skip x) s Q = Q (.normal, x) s := by rw [acode, W_pure]
theorem W_code_ret : W (acode C call nt fuel .ret x) s Q = Q (.ret, x) s := by rw [acode, W_pure]
theorem W_code_exit (id : Nat) : W (acode C call nt fuel (.exit id) x) s Q = Q (.exit id, x) s := by rw [acode, W_pure]
theorem W_block (id : Nat) (c : Code) : W (acode C call nt fuel (.block id c) x) s Q = W (acode C call nt fuel c x) s fun r s' => match r.1 with
    | .normal => Q (.normal, r.2) s'
    | .exit id' => match Nat.beq id' id with
      | true => Q (.normal, r.2) s'
      | false => Q (.exit id', r.2) s'
    | .ret => Q (.ret, r.2) s'
    | .panic v => Q (.panic v, r.2) s' := by
  rw [acode, W_bind]
  congr 1
  funext r s'
  obtain ⟨e, x'⟩ := r
  cases e with
  | exit id' => dsimp only; cases Nat.beq id' id <;> dsimp only <;> rw [W_pure]
  | _ => dsimp only; rw [W_pure]
theorem W_cond (c : Operand) (a b : Code) : W (acode C call nt fuel (.cond c a b) x) s Q = W (match aevO x.t c with
    | some (.bool true) => acode C call nt fuel a x
    | some (.bool false) => acode C call nt fuel b x
    | _ => A.fail) s Q := by rw [acode]; rfl
theorem W_condB {c : Operand} {a b : Code} {p : Bool} (h : aevO x.t c = some (.bool p)) (h1 : p = true → W (acode C call nt fuel a x) s Q) (h2 : p = false → W (acode C call nt fuel b x) s Q) : W (acode C call nt fuel (.cond c a b) x) s Q := by
  rw [W_cond, h]
  cases p
  · exact h2 rfl
  · exact h1 rfl
theorem W_region (id : Nat) (ops : Array Oper) (drawn : Bool) : W (acode C call nt fuel (.region id ops drawn) x) s Q = W (aregion C call nt ops.toList drawn x) s fun r s' => match r.1 with
    | none => Q (.normal, r.2) s'
    | some v => Q (.panic v, r.2) s' := by
  rw [acode, W_bind]
  congr 1
  funext r s'
  obtain ⟨e, x'⟩ := r
  cases e <;> dsimp only <;> rw [W_pure]
/-- Rounds, each of which brings a number down. -/
theorem W_loop {c : Code} (I : Nat → AAct → AS → Prop) (step : ∀ m x s, I m x s → W (acode C call nt fuel c x) s fun r s' => match r.1 with
    | .normal => ∃ m', m' < m ∧ I m' r.2 s'
    | .exit id => Q (.exit id, r.2) s'
    | .ret => Q (.ret, r.2) s'
    | .panic v => Q (.panic v, r.2) s') {m : Nat} (h : I m x s) (hf : m < fuel) : W (acode C call nt fuel (.loop c) x) s Q := by
  have key : ∀ (n : Nat) (m : Nat) (x : AAct) (s : AS), m < n → I m x s → W (aloop (acode C call nt fuel c) n x) s Q := by
    intro n
    induction n with
    | zero => intro m x s h; omega
    | succ n ih =>
      intro m x s h hI
      rw [aloop, W_bind]
      refine (step m x s hI).mono ?_
      rintro ⟨e, x'⟩ s' h'
      cases e with
      | normal =>
        obtain ⟨m', h1, h2⟩ := h'
        exact ih m' x' s' (by omega) h2
      | exit id => dsimp only; rw [W_pure]; exact h'
      | ret => dsimp only; rw [W_pure]; exact h'
      | panic v => dsimp only; rw [W_pure]; exact h'
  rw [acode]
  exact key fuel m x s hf h
end

/-! ### 2. Operations that only reckon -/
/-- A function of the program's own. -/
def isFn (C : Ctx) (g : FuncId) : Bool := match C.ext g with
  | some _ => false
  | none => match C.fn g with
    | some fn => fn.body.isSome
    | none => false
theorem isFn_spec {C : Ctx} {g : FuncId} (h : isFn C g = true) : C.ext g = none ∧ ∃ fn b, C.fn g = some fn ∧ fn.body = some b := by
  unfold isFn at h
  split at h
  · cases h
  · rename_i h1
    split at h
    · rename_i fn hfn
      obtain ⟨b, hb⟩ := Option.isSome_iff_exists.1 h
      exact ⟨h1, fn, b, hfn, hb⟩
    · cases h
/-- What an operation comes to, where it touches nothing. -/
def qop (C : Ctx) (callP : FuncId → List Value → Option Value) (ev : Operand → Option Value) (op : Op) : Option Value :=
  match op with
  | .move x => ev x
  | .assign x => ev x
  | .pick c a b => match ev c with
    | some (.bool true) => ev a
    | some (.bool false) => ev b
    | _ => none
  | .build t parts => match evps ev parts.toList with
    | some ps => abuild C t ps
    | none => none
  | .load t x => match ev x with
    | some (.func (.method _) cells _) => afload C t cells.toList
    | _ => none
  | .nilCheck x => match ev x with
    | some v => anilCheck v
    | none => none
  | .binOp op t x y _ => match ev x, ev y with
    | some a, some b => abin C op t x y a b
    | _, _ => none
  | .unOp op _ x => match ev x with
    | some a => aun op a
    | none => none
  | .convert src dst x => match ev x with
    | some a => aconv C src dst a
    | none => none
  | .makeInterface t x => match ev x with
    | some a => amkIface C t a
    | none => none
  | .makeFunc (.func f) first cap => match evs ev first.toList, evs ev cap.toList with
    | some a, some b => some (.func (.func f) a.toArray b.toArray)
    | _, _ => none
  | .slice t x lo hi mx => match ev x, evo ev lo, evo ev hi, evo ev mx with
    | some a, some l, some h, some m => aslice C t a l h m
    | _, _, _, _ => none
  | .fieldAddr t x f => match ev x with
    | some a => afieldAddr C t a f
    | none => none
  | .field t x f => match ev x with
    | some a => afield C t a f
    | none => none
  | .indexAddr t x i => match ev x, ev i with
    | some a, some b => aindexAddr C t a b
    | _, _ => none
  | .index t x i => match ev x, ev i with
    | some a, some b => aindex C t a b
    | _, _ => none
  | .extract x i => match ev x with
    | some a => aextract a i
    | none => none
  | .typeAssert x _ t true => match ev x with
    | some a => aassert C a t
    | none => none
  | .call c => match c.callee with
    | .builtin .len => match c.argTypes.toList, evs ev c.args.toList with
      | t :: _, some [x] => alen C t x
      | _, _ => none
    | .builtin .min => match evs ev c.args.toList with
      | some l => amin false l
      | none => none
    | .builtin .max => match evs ev c.args.toList with
      | some l => amin true l
      | none => none
    | .value f => match ev f, evs ev c.args.toList with
      | some (.func (.func g) first cap), some l => match isFn C g with
        | true => callP g (first.toList ++ l ++ cap.toList)
        | false => match C.ext g with
          | some o => o (first.toList ++ l ++ cap.toList)
          | none => none
      | _, _ => none
    | _ => none
  | _ => none

theorem aval_eq (v : Value) : aval (some v) = A.ret (.val v) := rfl
theorem qop_eff {C : Ctx} {call : FuncId → List Value → A AEnd} {callP : FuncId → List Value → Option Value} (hc : ∀ f args v, callP f args = some v → call f args = A.ret (.returned v))
    {ops : List Oper} {x : AAct} {o : Oper} {v : Value} (hg : awant ops x o = some true) (h : qop C callP (aevO x.t) o.op = some v) : aeff C call ops x o = A.ret (.put v) := by
  unfold aeff
  rw [hg]
  obtain ⟨dst, op, ty, pos, after, guard⟩ := o
  dsimp only at h ⊢
  have fin : ∀ {o : Option Value}, o = some v → (aval o >>= fun r => (match r with
      | .val v => (pure (.put v) : A Eff)
      | .skip => pure (.put (.tuple #[]))
      | .defer f args cap => pure (.defer ⟨f, args, cap⟩)
      | .enter f args => do
        let r ← call f args
        match r with
        | .returned v => pure (.put v)
        | .panicked v => pure (.panic v))) = A.ret (.put v) := by
    rintro o rfl
    rfl
  cases op <;> simp only [qop] at h
  all_goals try (cases h; done)
  all_goals (unfold aop; dsimp only)
  case move => exact fin h
  case assign => exact fin h
  case pick =>
    split at h
    · rename_i hc; rw [hc]; exact fin h
    · rename_i hc; rw [hc]; exact fin h
    · cases h
  case build =>
    split at h
    · rename_i ps hps; rw [hps]; exact fin h
    · cases h
  case load =>
    split at h
    · rename_i m cells d hx; rw [hx]; exact fin h
    · cases h
  case nilCheck =>
    split at h
    · rename_i u hx; rw [hx]; exact fin h
    · cases h
  case binOp =>
    split at h
    · rename_i a b ha hb; rw [ha, hb]; exact fin h
    · cases h
  case unOp =>
    split at h
    · rename_i u hx; rw [hx]; exact fin h
    · cases h
  case convert =>
    split at h
    · rename_i u hx; rw [hx]; dsimp only; rw [h]; exact fin rfl
    · cases h
  case makeInterface =>
    split at h
    · rename_i u hx; rw [hx]; exact fin h
    · cases h
  case makeFunc fn first cap =>
    cases fn with
    | func g =>
      dsimp only at h ⊢
      split at h
      · rename_i a b ha hb
        rw [ha, hb]
        exact fin h
      · cases h
    | _ => cases h
  case slice =>
    split at h
    · rename_i a l hh m h1 h2 h3 h4; rw [h1, h2, h3, h4]; exact fin h
    · cases h
  case fieldAddr =>
    split at h
    · rename_i u hx; rw [hx]; exact fin h
    · cases h
  case field =>
    split at h
    · rename_i u hx; rw [hx]; exact fin h
    · cases h
  case indexAddr =>
    split at h
    · rename_i a b ha hb; rw [ha, hb]; exact fin h
    · cases h
  case index =>
    split at h
    · rename_i a b ha hb; rw [ha, hb]; exact fin h
    · cases h
  case extract =>
    split at h
    · rename_i u hx; rw [hx]; exact fin h
    · cases h
  case typeAssert y yt t ok =>
    cases ok with
    | true =>
      dsimp only at h ⊢
      split at h
      · rename_i u hx; rw [hx]; exact fin h
      · cases h
    | false => cases h
  case call c =>
    obtain ⟨callee, args, tys⟩ := c
    dsimp only at h ⊢
    split at h
    · dsimp only
      split at h
      · rename_i t rest y hts hev
        rw [hts, hev]
        simp only [abuiltin]
        rw [h]
        rfl
      · cases h
    · dsimp only
      split at h
      · rename_i l hev
        rw [hev]
        simp only [abuiltin]
        rw [h]
        rfl
      · cases h
    · dsimp only
      split at h
      · rename_i l hev
        rw [hev]
        simp only [abuiltin]
        rw [h]
        rfl
      · cases h
    · dsimp only
      split at h
      · rename_i g first cap l hf hev
        rw [hf, hev]
        dsimp only
        split at h
        · rename_i hg
          obtain ⟨e1, fn, b, e2, e3⟩ := isFn_spec hg
          rw [e1]
          dsimp only
          rw [e2]
          dsimp only
          rw [e3]
          dsimp only
          have := hc _ _ _ h
          show A.bind (A.ret (ANext.enter g (first.toList ++ l ++ cap.toList))) _ = _
          have e : ∀ {α β : Type} (x : α) (f : α → A β), A.bind (A.ret x) f = f x := fun x f => rfl
          rw [e]
          dsimp only
          rw [this]
          rfl
        · split at h
          · rename_i o ho
            rw [ho]
            exact fin h
          · cases h
      · cases h
    · cases h
end
end Go.Proofs.BhE
