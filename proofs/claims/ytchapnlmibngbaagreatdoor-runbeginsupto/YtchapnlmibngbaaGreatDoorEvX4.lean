/- Regions in the text's order, with a store. -/
import Derived.Test.YtchapnlmibngbaaGreatDoorEvX3
set_option linter.all false
namespace Go.Proofs.BhE
open Go
noncomputable section

/-- What an operation comes to in a state. -/
def sop (C : Ctx) (callP : FuncId → List Value → Option Value) (s : AS) (ev : Operand → Option Value) (op : Op) : Option (Value × AS) :=
  match op with
  | .alloc e => (aalloc C e).run s
  | .box e x => match ev x with
    | some v => (anewVar e v).run s
    | none => none
  | .buildSlice t n parts => match evps ev parts.toList with
    | some ps => (abuildSlice C t n ps).run s
    | none => none
  | .load t x => match ev x with
    | some (.pointer (some a)) => (aloadVar C t a).run s
    | some (.func (.method _) cells _) => match afload C t cells.toList with
      | some v => some (v, s)
      | none => none
    | _ => none
  | .store t x y => match ev x, ev y with
    | some (.pointer (some a)), some v => match (astoreVar C t a v).run s with
      | some (_, s') => some (.tuple #[], s')
      | none => none
    | _, _ => none
  | .makeSlice t l c => match ev l, ev c with
    | some a, some b => (amakeSlice C t a b).run s
    | _, _ => none
  | .call c => match c.callee with
    | .builtin .append => match c.argTypes.toList, evs ev c.args.toList with
      | [st, xt], some [x0, x1] => (aappend C st xt x0 x1).run s
      | _, _ => none
    | .builtin .copy => match c.argTypes.toList, evs ev c.args.toList with
      | [dt, _], some [x0, x1] => (acopy C dt x0 x1).run s
      | _, _ => none
    | _ => match qop C callP ev op with
      | some v => some (v, s)
      | none => none
  | _ => match qop C callP ev op with
    | some v => some (v, s)
    | none => none

theorem run_aval (v : Value) (s : AS) : (aval (some v)).run s = some (.val v, s) := rfl
theorem run_valA (a : A Value) (s : AS) : (avalA a).run s = match a.run s with
    | some (v, s') => some (.val v, s')
    | none => none := by
  unfold avalA
  show A.bindRun a _ s = _
  unfold A.bindRun
  cases a.run s with
  | none => rfl
  | some p => rfl
theorem run_skip (a : A Unit) (s : AS) : (askip a).run s = match a.run s with
    | some (_, s') => some (.skip, s')
    | none => none := by
  unfold askip
  show A.bindRun a _ s = _
  unfold A.bindRun
  cases a.run s with
  | none => rfl
  | some p => rfl
theorem sop_eff {C : Ctx} {call : FuncId → List Value → A AEnd} {callP : FuncId → List Value → Option Value} (hc : ∀ f args v, callP f args = some v → call f args = A.ret (.returned v))
    {ops : List Oper} {x : AAct} {o : Oper} {v : Value} {s s' : AS} (hg : awant ops x o = some true) (h : sop C callP s (aevO x.t) o.op = some (v, s')) : (aeff C call ops x o).run s = some (.put v, s') := by
  have quiet : (match qop C callP (aevO x.t) o.op with
      | some v => some (v, s)
      | none => none) = some (v, s') → (aeff C call ops x o).run s = some (.put v, s') := by
    intro h
    split at h
    · rename_i u hu
      cases h
      rw [qop_eff hc hg hu]
      rfl
    · cases h
  obtain ⟨dst, op, ty, pos, after, guard⟩ := o
  dsimp only at h quiet
  have unf : (∀ p, op ≠ .panic p) → (aeff C call ops x ⟨dst, op, ty, pos, after, guard⟩).run s = A.bindRun (aop C (aevO x.t) ⟨dst, op, ty, pos, after, guard⟩) (fun r => (match r with
      | .val v => (pure (.put v) : A Eff)
      | .skip => pure (.put (.tuple #[]))
      | .defer f args cap => pure (.defer ⟨f, args, cap⟩)
      | .enter f args => do
        let r ← call f args
        match r with
        | .returned v => pure (.put v)
        | .panicked v => pure (.panic v))) s := by
    intro hp
    unfold aeff
    rw [hg]
    dsimp only
    cases op <;> first
      | rfl
      | exact absurd rfl (hp _)
  have finV : ∀ {a : A Value}, a.run s = some (v, s') → (∀ p, op ≠ .panic p) → aop C (aevO x.t) ⟨dst, op, ty, pos, after, guard⟩ = avalA a → (aeff C call ops x ⟨dst, op, ty, pos, after, guard⟩).run s = some (.put v, s') := by
    intro a ha hp he
    rw [unf hp, he]
    unfold A.bindRun
    rw [run_valA, ha]
    rfl
  cases op <;> simp only [sop] at h
  all_goals try (exact quiet h)
  case alloc t => exact finV h (fun p e => by cases e) rfl
  case box t y =>
    split at h
    · rename_i u hu
      refine finV h (fun p e => by cases e) ?_
      unfold aop
      dsimp only
      rw [hu]
    · cases h
  case buildSlice t n parts =>
    split at h
    · rename_i u hu
      refine finV h (fun p e => by cases e) ?_
      unfold aop
      dsimp only
      rw [hu]
    · cases h
  case load t y =>
    split at h
    · rename_i a ha
      refine finV h (fun p e => by cases e) ?_
      unfold aop
      dsimp only
      rw [ha]
    · rename_i m cells d ha
      split at h
      · rename_i u hu
        cases h
        refine quiet ?_
        simp only [qop, ha, hu]
      · cases h
    · cases h
  case store t y z =>
    split at h
    · rename_i a u ha hu
      split at h
      · rename_i r s2 hr
        cases h
        rw [unf (fun p e => by cases e)]
        unfold aop
        dsimp only
        rw [ha, hu]
        unfold A.bindRun
        dsimp only
        rw [run_skip, hr]
        rfl
      · cases h
    · cases h
  case makeSlice t y z =>
    split at h
    · rename_i a u ha hu
      refine finV h (fun p e => by cases e) ?_
      unfold aop
      dsimp only
      rw [ha, hu]
    · cases h
  case call c =>
    obtain ⟨callee, args, tys⟩ := c
    dsimp only at h
    split at h
    · split at h
      · rename_i st xt x0 x1 h1 h2
        refine finV h (fun p e => by cases e) ?_
        unfold aop
        dsimp only
        rw [h2]
        dsimp only
        unfold abuiltin
        rw [h1]
      · cases h
    · split at h
      · rename_i dt u x0 x1 h1 h2
        refine finV h (fun p e => by cases e) ?_
        unfold aop
        dsimp only
        rw [h2]
        dsimp only
        unfold abuiltin
        rw [h1]
      · cases h
    · exact quiet h

def sops (C : Ctx) (callP : FuncId → List Value → Option Value) (nt : Nat) (ds : List (Option Tmp)) : List Oper → AAct → AS → Option (AAct × AS)
  | [], x, s => some (x, s)
  | o :: rest, x, s => match wantG ds x.t o.guard with
    | some true => match sop C callP s (aevO x.t) o.op with
      | some (v, s') => match aput nt x o.dst v with
        | some x' => sops C callP nt ds rest x' s'
        | none => none
      | none => none
    | some false => match aput nt x o.dst (.tuple #[]) with
      | some x' => sops C callP nt ds rest x' s
      | none => none
    | none => none
section
variable {C : Ctx} {call : FuncId → List Value → A AEnd} {callP : FuncId → List Value → Option Value} {nt : Nat}
theorem sops_run (hc : ∀ f args v, callP f args = some v → call f args = A.ret (.returned v)) {all : List Oper} : ∀ (l : List Oper) (x x' : AAct) (s s' : AS), sops C callP nt (dsts all) l x s = some (x', s') →
    (aops C call nt all l x).run s = some ((none, x'), s')
  | [], x, x', s, s', h => by cases h; rfl
  | o :: rest, x, x', s, s', h => by
    have key : ∃ v x1 s1, (aeff C call all x o).run s = some (.put v, s1) ∧ aput nt x o.dst v = some x1 ∧ sops C callP nt (dsts all) rest x1 s1 = some (x', s') := by
      unfold sops at h
      split at h
      · rename_i hw
        split at h
        · rename_i v s1 hv
          split at h
          · rename_i x1 hx1
            exact ⟨v, x1, s1, sop_eff hc (wantG_eq _ _ _ _ hw) hv, hx1, h⟩
          · cases h
        · cases h
      · rename_i hw
        split at h
        · rename_i x1 hx1
          refine ⟨_, x1, s, ?_, hx1, h⟩
          unfold aeff
          rw [wantG_eq _ _ _ _ hw]
          rfl
        · cases h
      · cases h
    obtain ⟨v, x1, s1, h1, h2, h3⟩ := key
    have ih := sops_run hc rest x1 x' s1 s' h3
    show A.bindRun (astep C call nt all x o) _ s = _
    have hs : (astep C call nt all x o).run s = some ((none, x1), s1) := by
      unfold astep
      show A.bindRun (aeff C call all x o) _ s = _
      unfold A.bindRun
      rw [h1]
      simp only [aapply, h2]
      rfl
    unfold A.bindRun
    rw [hs]
    exact ih
theorem W_ops (hc : ∀ f args v, callP f args = some v → call f args = A.ret (.returned v)) {fuel : Nat} {id : Nat} {ops : Array Oper} {x : AAct} {s : AS} {Q : AExit × AAct → AS → Prop}
    (h : ∃ x' s', sops C callP nt (dsts ops.toList) ops.toList x s = some (x', s') ∧ Q (.normal, x') s') : W (acode C call nt fuel (.region id ops false) x) s Q := by
  obtain ⟨x', s', h, hQ⟩ := h
  rw [W_region]
  exact ⟨(none, x'), s', sops_run hc _ x x' s s' h, hQ⟩
end

/-! ### Operations, one by one -/
theorem sop_move (C : Ctx) (callP : FuncId → List Value → Option Value) (s : AS) (ev : Operand → Option Value) (x : Operand) : sop C callP s ev (.move x) = (match qop C callP ev (.move x) with
    | some v => some (v, s)
    | none => none) := rfl
theorem sop_assign (C : Ctx) (callP : FuncId → List Value → Option Value) (s : AS) (ev : Operand → Option Value) (x : Operand) : sop C callP s ev (.assign x) = (match qop C callP ev (.assign x) with
    | some v => some (v, s)
    | none => none) := rfl
theorem sop_pick (C : Ctx) (callP : FuncId → List Value → Option Value) (s : AS) (ev : Operand → Option Value) (c a b : Operand) : sop C callP s ev (.pick c a b) = (match qop C callP ev (.pick c a b) with
    | some v => some (v, s)
    | none => none) := rfl
theorem sop_build (C : Ctx) (callP : FuncId → List Value → Option Value) (s : AS) (ev : Operand → Option Value) (t : TypeId) (ps : Array (Nat × Operand)) : sop C callP s ev (.build t ps) = (match qop C callP ev (.build t ps) with
    | some v => some (v, s)
    | none => none) := rfl
theorem sop_nilCheck (C : Ctx) (callP : FuncId → List Value → Option Value) (s : AS) (ev : Operand → Option Value) (x : Operand) : sop C callP s ev (.nilCheck x) = (match qop C callP ev (.nilCheck x) with
    | some v => some (v, s)
    | none => none) := rfl
theorem sop_binOp (C : Ctx) (callP : FuncId → List Value → Option Value) (s : AS) (ev : Operand → Option Value) (op : BinOp) (t u : TypeId) (x y : Operand) : sop C callP s ev (.binOp op t x y u) = (match qop C callP ev (.binOp op t x y u) with
    | some v => some (v, s)
    | none => none) := rfl
theorem sop_unOp (C : Ctx) (callP : FuncId → List Value → Option Value) (s : AS) (ev : Operand → Option Value) (op : UnOp) (t : TypeId) (x : Operand) : sop C callP s ev (.unOp op t x) = (match qop C callP ev (.unOp op t x) with
    | some v => some (v, s)
    | none => none) := rfl
theorem sop_convert (C : Ctx) (callP : FuncId → List Value → Option Value) (s : AS) (ev : Operand → Option Value) (a b : TypeId) (x : Operand) : sop C callP s ev (.convert a b x) = (match qop C callP ev (.convert a b x) with
    | some v => some (v, s)
    | none => none) := rfl
theorem sop_makeInterface (C : Ctx) (callP : FuncId → List Value → Option Value) (s : AS) (ev : Operand → Option Value) (t : TypeId) (x : Operand) : sop C callP s ev (.makeInterface t x) = (match qop C callP ev (.makeInterface t x) with
    | some v => some (v, s)
    | none => none) := rfl
theorem sop_makeFunc (C : Ctx) (callP : FuncId → List Value → Option Value) (s : AS) (ev : Operand → Option Value) (f : Fn) (a b : Array Operand) : sop C callP s ev (.makeFunc f a b) = (match qop C callP ev (.makeFunc f a b) with
    | some v => some (v, s)
    | none => none) := rfl
theorem sop_slice (C : Ctx) (callP : FuncId → List Value → Option Value) (s : AS) (ev : Operand → Option Value) (t : TypeId) (x : Operand) (l h m : Option Operand) : sop C callP s ev (.slice t x l h m) = (match qop C callP ev (.slice t x l h m) with
    | some v => some (v, s)
    | none => none) := rfl
theorem sop_fieldAddr (C : Ctx) (callP : FuncId → List Value → Option Value) (s : AS) (ev : Operand → Option Value) (t : TypeId) (x : Operand) (f : Nat) : sop C callP s ev (.fieldAddr t x f) = (match qop C callP ev (.fieldAddr t x f) with
    | some v => some (v, s)
    | none => none) := rfl
theorem sop_field (C : Ctx) (callP : FuncId → List Value → Option Value) (s : AS) (ev : Operand → Option Value) (t : TypeId) (x : Operand) (f : Nat) : sop C callP s ev (.field t x f) = (match qop C callP ev (.field t x f) with
    | some v => some (v, s)
    | none => none) := rfl
theorem sop_indexAddr (C : Ctx) (callP : FuncId → List Value → Option Value) (s : AS) (ev : Operand → Option Value) (t : TypeId) (x i : Operand) : sop C callP s ev (.indexAddr t x i) = (match qop C callP ev (.indexAddr t x i) with
    | some v => some (v, s)
    | none => none) := rfl
theorem sop_index (C : Ctx) (callP : FuncId → List Value → Option Value) (s : AS) (ev : Operand → Option Value) (t : TypeId) (x i : Operand) : sop C callP s ev (.index t x i) = (match qop C callP ev (.index t x i) with
    | some v => some (v, s)
    | none => none) := rfl
theorem sop_extract (C : Ctx) (callP : FuncId → List Value → Option Value) (s : AS) (ev : Operand → Option Value) (x : Operand) (i : Nat) : sop C callP s ev (.extract x i) = (match qop C callP ev (.extract x i) with
    | some v => some (v, s)
    | none => none) := rfl
theorem sop_typeAssert (C : Ctx) (callP : FuncId → List Value → Option Value) (s : AS) (ev : Operand → Option Value) (x : Operand) (t u : TypeId) (ok : Bool) : sop C callP s ev (.typeAssert x t u ok) = (match qop C callP ev (.typeAssert x t u ok) with
    | some v => some (v, s)
    | none => none) := rfl
theorem sop_len (C : Ctx) (callP : FuncId → List Value → Option Value) (s : AS) (ev : Operand → Option Value) (as : Array Operand) (ts : Array TypeId) : sop C callP s ev (.call ⟨.builtin .len, as, ts⟩) = (match qop C callP ev (.call ⟨.builtin .len, as, ts⟩) with
    | some v => some (v, s)
    | none => none) := rfl
theorem sop_min (C : Ctx) (callP : FuncId → List Value → Option Value) (s : AS) (ev : Operand → Option Value) (as : Array Operand) (ts : Array TypeId) : sop C callP s ev (.call ⟨.builtin .min, as, ts⟩) = (match qop C callP ev (.call ⟨.builtin .min, as, ts⟩) with
    | some v => some (v, s)
    | none => none) := rfl
theorem sop_max (C : Ctx) (callP : FuncId → List Value → Option Value) (s : AS) (ev : Operand → Option Value) (as : Array Operand) (ts : Array TypeId) : sop C callP s ev (.call ⟨.builtin .max, as, ts⟩) = (match qop C callP ev (.call ⟨.builtin .max, as, ts⟩) with
    | some v => some (v, s)
    | none => none) := rfl
theorem sop_call (C : Ctx) (callP : FuncId → List Value → Option Value) (s : AS) (ev : Operand → Option Value) (f : Operand) (as : Array Operand) (ts : Array TypeId) : sop C callP s ev (.call ⟨.value f, as, ts⟩) = (match qop C callP ev (.call ⟨.value f, as, ts⟩) with
    | some v => some (v, s)
    | none => none) := rfl
theorem sop_alloc (C : Ctx) (callP : FuncId → List Value → Option Value) (s : AS) (ev : Operand → Option Value) (e : TypeId) : sop C callP s ev (.alloc e) = (aalloc C e).run s := rfl
theorem sop_box (C : Ctx) (callP : FuncId → List Value → Option Value) (s : AS) (ev : Operand → Option Value) (e : TypeId) (x : Operand) : sop C callP s ev (.box e x) = (match ev x with
    | some v => (anewVar e v).run s
    | none => none) := rfl
theorem sop_buildSlice (C : Ctx) (callP : FuncId → List Value → Option Value) (s : AS) (ev : Operand → Option Value) (t : TypeId) (n : Nat) (ps : Array (Nat × Operand)) : sop C callP s ev (.buildSlice t n ps) = (match evps ev ps.toList with
    | some ps => (abuildSlice C t n ps).run s
    | none => none) := rfl
theorem sop_load (C : Ctx) (callP : FuncId → List Value → Option Value) (s : AS) (ev : Operand → Option Value) (t : TypeId) (x : Operand) : sop C callP s ev (.load t x) = (match ev x with
    | some (.pointer (some a)) => (aloadVar C t a).run s
    | some (.func (.method _) cells _) => match afload C t cells.toList with
      | some v => some (v, s)
      | none => none
    | _ => none) := rfl
theorem sop_store (C : Ctx) (callP : FuncId → List Value → Option Value) (s : AS) (ev : Operand → Option Value) (t : TypeId) (x y : Operand) : sop C callP s ev (.store t x y) = (match ev x, ev y with
    | some (.pointer (some a)), some v => match (astoreVar C t a v).run s with
      | some (_, s') => some (.tuple #[], s')
      | none => none
    | _, _ => none) := rfl
theorem sop_makeSlice (C : Ctx) (callP : FuncId → List Value → Option Value) (s : AS) (ev : Operand → Option Value) (t : TypeId) (x y : Operand) : sop C callP s ev (.makeSlice t x y) = (match ev x, ev y with
    | some a, some b => (amakeSlice C t a b).run s
    | _, _ => none) := rfl
theorem sop_append (C : Ctx) (callP : FuncId → List Value → Option Value) (s : AS) (ev : Operand → Option Value) (as : Array Operand) (ts : Array TypeId) : sop C callP s ev (.call ⟨.builtin .append, as, ts⟩) = (match ts.toList, evs ev as.toList with
    | [st, xt], some [x0, x1] => (aappend C st xt x0 x1).run s
    | _, _ => none) := rfl
theorem sop_copy (C : Ctx) (callP : FuncId → List Value → Option Value) (s : AS) (ev : Operand → Option Value) (as : Array Operand) (ts : Array TypeId) : sop C callP s ev (.call ⟨.builtin .copy, as, ts⟩) = (match ts.toList, evs ev as.toList with
    | [dt, _], some [x0, x1] => (acopy C dt x0 x1).run s
    | _, _ => none) := rfl

/-! ### What boxes hold -/
theorem run_newVar (e : TypeId) (v : Value) (s : AS) : (anewVar e v).run s = some (.pointer (some ⟨s.n, 0, none⟩), s.push (.row e v.cells.toList)) := rfl
theorem run_loadVar {C : Ctx} {t : TypeId} {d : TypeDesc} {a : Addr} {e : TypeId} {cs : List Value} {s : AS} {v : Value} (hd : C.und t = some d) (hag : isAggD d = false) (hs : a.spot = none) (hg : s.h.get a.block = some (.row e cs)) (hv : cs[a.off]? = some v) :
    (aloadVar C t a).run s = some (v, s.touchR a.block) := by
  unfold aloadVar
  show A.bindRun (aisAgg C t) _ s = _
  have h1 : (aisAgg C t).run s = some (false, s) := by
    unfold aisAgg aund
    rw [hd]
    cases d <;> first
      | rfl
      | simp [isAggD] at hag
  unfold A.bindRun
  rw [h1]
  dsimp only
  unfold aload
  simp only [hs, hg, hv]
theorem run_loadAgg {C : Ctx} {t : TypeId} {d : TypeDesc} {inf : TypeInfo} {a : Addr} {e : TypeId} {cs : List Value} {s : AS} (hd : C.und t = some d) (hag : isAggD d = true) (hi : C.inf t = some inf) (h0 : 0 < inf.size) (hs : a.spot = none) (hg : s.h.get a.block = some (.row e cs)) (hl : a.off + inf.size ≤ cs.length) :
    (aloadVar C t a).run s = some (.agg ((cs.drop a.off).take inf.size).toArray, s.touchR a.block) := by
  unfold aloadVar
  show A.bindRun (aisAgg C t) _ s = _
  have h1 : (aisAgg C t).run s = some (true, s) := by
    unfold aisAgg aund
    rw [hd]
    cases d <;> first
      | rfl
      | simp [isAggD] at hag
  unfold A.bindRun
  rw [h1]
  dsimp only
  show A.bindRun (asize C t) _ s = _
  have h2 : (asize C t).run s = some (inf.size, s) := by
    unfold asize ainf
    rw [hi]
    rfl
  unfold A.bindRun
  rw [h2]
  dsimp only
  show A.bindRun (aloadN a inf.size) _ s = _
  have h3 : (aloadN a inf.size).run s = some ((cs.drop a.off).take inf.size, s.touchR a.block) := by
    unfold aloadN
    dsimp only
    split
    · rename_i h; omega
    · rename_i m hm
      rw [hs]
      dsimp only
      rw [hg]
      dsimp only
      rw [forceL_eq]
      have : Nat.beq ((cs.drop a.off).take (m + 1)).length (m + 1) = true := by
        rw [List.length_take, List.length_drop, Nat.min_eq_left (by omega)]
        simp
      rw [this, hm]
  unfold A.bindRun
  rw [h3]
  rfl
end
end Go.Proofs.BhE
