/- Every operation of a closed run is the model's own. -/
import Derived.Test.YtchapnlmibngbaaGreatDoorEvP
set_option linter.all false
namespace Go.Proofs.BhE
open Go
noncomputable section

inductive ANext where
  | val (v : Value)
  | skip
  | enter (f : FuncId) (args : List Value)
  | defer (f : FuncId) (args cap : List Value)

inductive NRel (ρ : Rho) : ANext → Next → Prop
  | val {v v' : Value} : VRel ρ v v' → NRel ρ (.val v) (.value v')
  | skip : NRel ρ .skip .skip
  | enter {f : FuncId} {args : List Value} {args' : Array Value} : VRels ρ args args'.toList → NRel ρ (.enter f args) (.enter f args')
  | defer {f : FuncId} {args cap : List Value} {args' cap' : Array Value} : VRels ρ args args'.toList → VRels ρ cap cap'.toList → NRel ρ (.defer f args cap) (.defer { target := .fn (.func f) cap', args := args' })

def EvRel (ρ : Rho) (ev : Operand → Option Value) (e : Operand → Value) : Prop := ∀ x v, ev x = some v → VRel ρ v (e x)
theorem EvRel.ext {ρ ρ' : Rho} {ev : Operand → Option Value} {e : Operand → Value} (h : EvRel ρ ev e) (k : Rho.ext ρ ρ') : EvRel ρ' ev e := fun x v hx => (h x v hx).ext k

def evs (ev : Operand → Option Value) : List Operand → Option (List Value)
  | [] => some []
  | x :: l =>
    match ev x with
    | none => none
    | some v => match evs ev l with
      | none => none
      | some vs => some (v :: vs)
theorem evs_rel {ρ : Rho} {ev : Operand → Option Value} {e : Operand → Value} (h : EvRel ρ ev e) : ∀ (l : List Operand) (vs : List Value), evs ev l = some vs → VRels ρ vs (l.map e)
  | [], vs, k => by cases k; exact .nil
  | x :: l, vs, k => by
    unfold evs at k
    split at k
    · cases k
    rename_i v hv
    split at k
    · cases k
    rename_i vs' hvs
    cases k
    exact .cons (h _ _ hv) (evs_rel h l vs' hvs)
def evps (ev : Operand → Option Value) : List (Nat × Operand) → Option (List (Nat × Value))
  | [] => some []
  | (i, x) :: l =>
    match ev x with
    | none => none
    | some v => match evps ev l with
      | none => none
      | some vs => some ((i, v) :: vs)
theorem evps_rel {ρ : Rho} {ev : Operand → Option Value} {e : Operand → Value} (h : EvRel ρ ev e) : ∀ (l : List (Nat × Operand)) (vs : List (Nat × Value)), evps ev l = some vs → PRels ρ vs (l.map fun (i, x) => (i, e x))
  | [], vs, k => by cases k; exact .nil
  | (i, x) :: l, vs, k => by
    unfold evps at k
    split at k
    · cases k
    rename_i v hv
    split at k
    · cases k
    rename_i vs' hvs
    cases k
    exact .cons (h _ _ hv) (evps_rel h l vs' hvs)
def evo (ev : Operand → Option Value) : Option Operand → Option (Option Value)
  | none => some none
  | some x => match ev x with
    | none => none
    | some v => some (some v)
theorem evo_rel {ρ : Rho} {ev : Operand → Option Value} {e : Operand → Value} (h : EvRel ρ ev e) {x : Option Operand} {v : Option Value} (k : evo ev x = some v) : ORel ρ v (x.map e) := by
  cases x with
  | none => cases k; exact .none
  | some x =>
    unfold evo at k
    dsimp only at k
    split at k
    · cases k
    rename_i u hu
    cases k
    exact .some (h _ _ hu)

def amin (isMax : Bool) : List Value → Option Value
  | [.int k x, .int _ y] => some (.int k (match isMax with
    | false => if y < x then y else x
    | true => if y > x then y else x))
  | _ => none

def acap (C : Ctx) (t : TypeId) (x : Value) : Option Value :=
  match C.und t, x with
  | some (.slice _), .slice none _ _ => some (.int .i64 0)
  | some (.slice _), .slice (some _) _ c => match Nat.beq (c % 2) 0 with
    | true => some (.int .i64 (c / 2 : Nat))
    | false => none
  | _, _ => none

def aclear (C : Ctx) (t : TypeId) (x : Value) : A Value :=
  match C.und t, x with
  | some (.slice e), .slice base n _ =>
    match n, base with
    | 0, _ => pure (.tuple #[])
    | k + 1, some a =>
      match azeroO C e with
      | none => A.fail
      | some z => do
        astoreN a (repList (k + 1) z.cells.toList)
        pure (.tuple #[])
    | _, none => A.fail
  | _, _ => A.fail

def abuiltin (C : Ctx) (b : Builtin) (ts : List TypeId) (args : List Value) : A Value :=
  match b, ts, args with
  | .len, t :: _, [x] => A.ofOption (alen C t x)
  | .cap, t :: _, [x] => A.ofOption (acap C t x)
  | .append, [st, xt], [x0, x1] => aappend C st xt x0 x1
  | .copy, [dt, _], [x0, x1] => acopy C dt x0 x1
  | .min, _, l => A.ofOption (amin false l)
  | .max, _, l => A.ofOption (amin true l)
  | .clear, [t], [x] => aclear C t x
  | _, _, _ => A.fail

def anilCheck : Value → Option Value
  | .pointer (some a) => some (.pointer (some a))
  | .iface t v => some (.iface t v)
  | .func (.func f) a b => some (.func (.func f) a b)
  | .func (.method m) a b => some (.func (.method m) a b)
  | _ => none

def aval (o : Option Value) : A ANext := do
  let v ← A.ofOption o
  pure (.val v)
def avalA (a : A Value) : A ANext := do
  let v ← a
  pure (.val v)
def askip (a : A Unit) : A ANext := do
  a
  pure .skip

/-- Settled cells are read. -/
def afload (C : Ctx) (t : TypeId) (cells : List Value) : Option Value :=
  match C.und t with
  | none => none
  | some d => match isAggD d with
    | true => match C.inf t with
      | none => none
      | some i => match Nat.ble i.size cells.length with
        | true => some (.agg (cells.take i.size).toArray)
        | false => none
    | false => cells[0]?

def aop (C : Ctx) (ev : Operand → Option Value) (o : Oper) : A ANext :=
  match o.op with
  | .move x => aval (ev x)
  | .assign x => aval (ev x)
  | .pick c a b => match ev c with
    | some (.bool true) => aval (ev a)
    | some (.bool false) => aval (ev b)
    | _ => A.fail
  | .alloc e => avalA (aalloc C e)
  | .box e x => match ev x with
    | some v => avalA (anewVar e v)
    | none => A.fail
  | .build t parts => match evps ev parts.toList with
    | some ps => aval (abuild C t ps)
    | none => A.fail
  | .buildSlice t n parts => match evps ev parts.toList with
    | some ps => avalA (abuildSlice C t n ps)
    | none => A.fail
  | .load t x => match ev x with
    | some (.pointer (some a)) => avalA (aloadVar C t a)
    | some (.func (.method _) cells _) => aval (afload C t cells.toList)
    | _ => A.fail
  | .store t x y => match ev x, ev y with
    | some (.pointer (some a)), some v => askip (astoreVar C t a v)
    | _, _ => A.fail
  | .nilCheck x => match ev x with
    | some v => aval (anilCheck v)
    | none => A.fail
  | .binOp op t x y _ => match ev x, ev y with
    | some a, some b => aval (abin C op t x y a b)
    | _, _ => A.fail
  | .unOp op _ x => match ev x with
    | some a => aval (aun op a)
    | none => A.fail
  | .convert src dst x => match ev x with
    | some a => match aconv C src dst a, a with
      | some r, _ => aval (some r)
      | none, .string s => avalA (astrBytes C src dst s)
      | none, _ => A.fail
    | none => A.fail
  | .makeInterface t x => match ev x with
    | some a => aval (amkIface C t a)
    | none => A.fail
  | .makeFunc (.func f) first cap => match evs ev first.toList, evs ev cap.toList with
    | some a, some b => aval (some (.func (.func f) a.toArray b.toArray))
    | _, _ => A.fail
  | .makeMap _ none => avalA (amakeMap none)
  | .lookup xt x ix false => match ev x, ev ix with
    | some a, some b => avalA (alookup C xt a b)
    | _, _ => A.fail
  | .mapUpdate t m k x => match ev m, ev k, ev x with
    | some a, some b, some c => askip (amapUpdate C t a b c)
    | _, _, _ => A.fail
  | .makeSlice t l c => match ev l, ev c with
    | some a, some b => avalA (amakeSlice C t a b)
    | _, _ => A.fail
  | .slice t x lo hi mx => match ev x, evo ev lo, evo ev hi, evo ev mx with
    | some a, some l, some h, some m => aval (aslice C t a l h m)
    | _, _, _, _ => A.fail
  | .fieldAddr t x f => match ev x with
    | some a => aval (afieldAddr C t a f)
    | none => A.fail
  | .field t x f => match ev x with
    | some a => aval (afield C t a f)
    | none => A.fail
  | .indexAddr t x i => match ev x, ev i with
    | some a, some b => aval (aindexAddr C t a b)
    | _, _ => A.fail
  | .index t x i => match ev x, ev i with
    | some a, some b => aval (aindex C t a b)
    | _, _ => A.fail
  | .extract x i => match ev x with
    | some a => aval (aextract a i)
    | none => A.fail
  | .typeAssert x _ t true => match ev x with
    | some a => aval (aassert C a t)
    | none => A.fail
  | .call c => match c.callee with
    | .builtin b => match evs ev c.args.toList with
      | some l => avalA (abuiltin C b c.argTypes.toList l)
      | none => A.fail
    | .value f => match ev f, evs ev c.args.toList with
      | some (.func (.func g) first cap), some l =>
        match C.ext g with
        | some o => aval (o (first.toList ++ l ++ cap.toList))
        | none => match C.fn g with
          | some fn => match fn.body with
            | some _ => pure (.enter g (first.toList ++ l ++ cap.toList))
            | none => A.fail
          | none => A.fail
      | _, _ => A.fail
    | _ => A.fail
  | .defer c => match c.callee with
    | .value f => match ev f, evs ev c.args.toList with
      | some (.func (.func g) first cap), some l => pure (.defer g (first.toList ++ l) cap.toList)
      | _, _ => A.fail
    | _ => A.fail
  | _ => A.fail

section
variable {P : Program} {C : Ctx} {Pm : Nat → Prop} {ρ : Rho} {s : AS} {w : World} {e : Operand → Value} {ev : Operand → Option Value}

theorem sim_fload (hC : C.Ok P) {t : TypeId} {m : String} {cells d : Array Value} {a' : Value} (hx : VRel ρ (.func (.method m) cells d) a') :
    ∃ a'', a' = .pointer (some a'') ∧ SimAt P Pm ρ s w (A.ofOption (afload C t cells.toList)) (loadVar t a'') VRel := by
  cases hx with
  | @fptr _ b off _ c el fr hfz hr =>
  refine ⟨_, rfl, ?_⟩
  intro x s' h hp
  have hb := hp.rep.fz _ _ hfz
  have hl := hr.length
  rw [cutC_length] at hl
  unfold afload at h
  split at h
  · cases h
  rename_i ds hd
  split at h
  · rename_i hag
    split at h
    · cases h
    rename_i i hi
    split at h
    · rename_i hle
      have hle := Nat.le_of_ble_eq_true hle
      cases h
      have hr2 := hr.take i.size
      rw [cutC_take _ _ _ _ hle] at hr2
      refine ⟨ρ, .agg (cutC c off i.size).toArray, w, ?_, Step.refl hp, .agg hr2⟩
      unfold loadVar
      rw [Sem.run_bind, run_isAgg hC hd, hag]
      simp only [if_true]
      rw [Sem.run_bind, run_size hC hi]
      dsimp only
      rw [Sem.run_bind]
      unfold loadCells
      by_cases h0 : i.size = 0
      · rw [h0]
        simp [loadCellsFrom, cutC]
      · rw [run_loadFrom_fz hb i.size 0 #[] (by omega)]
        simp
    · cases h
  · rename_i hag
    cases hv : cells.toList[0]? with
    | none => rw [hv] at h; cases h
    | some v =>
      rw [hv] at h
      obtain rfl : v = x := by cases h; rfl
      obtain rfl : s = s' := by cases h; rfl
      obtain ⟨v', hv', hrv⟩ := hr.get 0 v hv
      have hlt : 0 < cells.toList.length := (List.getElem?_eq_some_iff.1 hv).1
      refine ⟨ρ, v', w, ?_, Step.refl hp, hrv⟩
      unfold loadVar
      rw [Sem.run_bind, run_isAgg hC hd]
      have hag' : isAggD ds = false := by simpa using hag
      rw [hag']
      simp only [Bool.false_eq_true, if_false]
      have hc : c[off]? = some v' := by
        unfold cutC at hv'
        rw [List.getElem?_take_of_lt hlt, List.getElem?_drop] at hv'
        simpa using hv'
      simp [Go.load, Sem.run, World.cell?, hb, hc]

theorem sim_aval {o : Option Value} {c : Sem Value} (h : ∀ r, o = some r → ∃ r', c.run P w = .ok r' w ∧ VRel ρ r r') :
    SimAt P Pm ρ s w (aval o) (do pure (.value (← c))) NRel := by
  unfold aval
  refine sim_bind (sim_opt (R := VRel) h) ?_
  intro ρ1 s1 w1 x y _ hr
  exact sim_pure (.val hr)
theorem sim_avalA {a : A Value} {c : Sem Value} (h : SimAt P Pm ρ s w a c VRel) : SimAt P Pm ρ s w (avalA a) (do pure (.value (← c))) NRel := by
  unfold avalA
  refine sim_bind h ?_
  intro ρ1 s1 w1 x y _ hr
  exact sim_pure (.val hr)
theorem sim_askip {a : A Unit} {c : Sem Unit} (h : SimAt P Pm ρ s w a c (fun _ _ _ => True)) : SimAt P Pm ρ s w (askip a) (do c; pure .skip) NRel := by
  unfold askip
  refine sim_bind h ?_
  intro ρ1 s1 w1 x y _ _
  exact sim_pure .skip
/-- A value that is there at once. -/
theorem sim_now {o : Option Value} {v' : Value} (h : ∀ r, o = some r → VRel ρ r v') : SimAt P Pm ρ s w (aval o) (pure (.value v')) NRel :=
  sim_congr (c' := do pure (.value (← (pure v' : Sem Value)))) rfl (sim_aval fun r hr => ⟨v', rfl, h r hr⟩)

theorem amin_run {isMax : Bool} {l : List Value} {l' : Array Value} {r : Value} {ts : Array TypeId} {ty : TypeId} (h : amin isMax l = some r) (hl : VRels ρ l l'.toList) (w : World) :
    ((if isMax then Builtin.max_ ts ty l' else Builtin.min_ ts ty l') : Sem Value).run P w = .ok r w ∧ VRel ρ r r := by
  unfold amin at h
  split at h
  · cases h
    rcases l' with ⟨l'⟩
    cases hl with
    | cons h1 hl => cases hl with
      | cons h2 hl => cases hl; cases h1; cases h2; cases isMax <;> exact ⟨rfl, .int _ _⟩
  · cases h

theorem acap_run (hC : C.Ok P) {t : TypeId} {ts : Array TypeId} {ty : TypeId} {x x' r : Value} (ht0 : ts[0]? = some t) (h : acap C t x = some r) (hx : VRel ρ x x') (w : World) :
    (Builtin.cap_ ts ty #[x']).run P w = .ok r w ∧ VRel ρ r r := by
  unfold acap at h
  unfold Builtin.cap_
  simp only [ht0]
  split at h
  · rename_i ht; cases h
    refine ⟨?_, .int _ _⟩
    show (do let d ← underlying t; _ : Sem Value).run P w = _
    rw [Sem.run_bind, run_underlying (hC.und _ _ ht)]
    rcases hx.slice_inv with ⟨_, rfl, rfl, rfl⟩ | ⟨i', o, p, c', h0, _⟩ | ⟨i', o, p, c', ee, h0, _⟩ | ⟨i', o, p, a', ee, h0, _⟩
    · rfl
    all_goals cases h0
  · rename_i ht
    split at h
    · rename_i hev
      have hev := Nat.eq_of_beq_eq_true hev
      cases h
      refine ⟨?_, .int _ _⟩
      show (do let d ← underlying t; _ : Sem Value).run P w = _
      rw [Sem.run_bind, run_underlying (hC.und _ _ ht)]
      rcases hx.slice_inv with ⟨h0, _⟩ | ⟨i', o, p, c', h0, hp, rfl, rfl⟩ | ⟨i', o, p, c', ee, h0, _, h1, _⟩ | ⟨i', o, p, a', ee, h0, _, _, h1, _⟩
      · cases h0
      · have : 2 * c' / 2 = c' := by omega
        rw [this]
        rfl
      · omega
      · omega
    · cases h
  · cases h

theorem sim_clear (hC : C.Ok P) {t ty : TypeId} {ts : Array TypeId} {x x' : Value} (ht0 : ts[0]? = some t) (hx : VRel ρ x x') : SimAt P Pm ρ s w (aclear C t x) (Builtin.clear_ ts ty #[x']) VRel := by
  unfold aclear
  split
  · rename_i e base n c ht
    have hu := Go.run_underlying (hC.und _ _ ht)
    split
    · obtain ⟨b', c', rfl⟩ : ∃ b' c', x' = .slice b' 0 c' := by
        rcases hx.slice_inv with ⟨rfl, _, rfl, rfl⟩ | ⟨i, o, p, c', rfl, hp, rfl, rfl⟩ | ⟨i, o, p, c', ee, rfl, hp, hc, _, _, rfl⟩ | ⟨i, o, p, a', ee, rfl, hp, _, hc, rfl⟩ <;> exact ⟨_, _, rfl⟩
      refine sim_congr (c' := pure (.tuple #[])) ?_ (sim_pure (.tuple .nil))
      cases b' <;> simp [Builtin.clear_, ht0, hu] <;> rfl
    · rename_i k a
      split
      · exact sim_fail
      rename_i z hz
      obtain ⟨it, hit, hiz, hzr⟩ := azeroO_spec hz
      obtain ⟨a', c', rfl, ha⟩ : ∃ a' c', x' = .slice (some a') (k + 1) c' ∧ AddrRel ρ a a' := by
        rcases hx.slice_inv with ⟨h0, _⟩ | ⟨i', o, p, c', h0, hp, _, rfl⟩ | ⟨i', o, p, c', ee, h0, hp, _, _, _, rfl⟩ | ⟨i', o, p, a', ee, h0, _, h1, _⟩
        · cases h0
        · cases h0; exact ⟨_, _, rfl, p, hp, rfl, rfl⟩
        · cases h0; exact ⟨_, _, rfl, p, hp, rfl, rfl⟩
        · omega
      refine sim_congr (c' := do storeCells a' (Builtin.zeroCells z.cells (k + 1)).toList; pure (.tuple #[])) ?_ ?_
      · simp [Builtin.clear_, ht0, hu, zeroValue, typeInfo, hC.inf _ _ hit, hiz]
      · have hrep : VRels ρ (repList (k + 1) z.cells.toList) (Builtin.zeroCells z.cells (k + 1)).toList := by
          have := repList_rel (hzr ρ).cells (k + 1) ((k + 1) * z.cells.size) (by simp)
          simpa [Builtin.zeroCells] using this
        refine sim_bind (sim_storeN ha hrep) ?_
        intro ρ1 s1 w1 _ _ _ _
        exact sim_pure (.tuple .nil)
    · exact sim_fail
  · exact sim_fail
end
end
end Go.Proofs.BhE
