/- Regions that only reckon; calls of functions that are known. -/
import Derived.Test.YtchapnlmibngbaaGreatDoorEvX1
set_option linter.all false
namespace Go.Proofs.BhE
open Go
noncomputable section

/-! ### 1. A region that touches nothing -/
/-- Where a guard's value lies. -/
def dsts : List Oper → List (Option Tmp)
  | [] => []
  | o :: l => o.dst :: dsts l
theorem dsts_get : ∀ (l : List Oper) (j : Nat), (dsts l)[j]? = l[j]?.map (·.dst)
  | [], j => by simp [dsts]
  | o :: l, 0 => by simp [dsts]
  | o :: l, j + 1 => by simp [dsts, dsts_get l j]
def wantG (ds : List (Option Tmp)) (t : Tr Value) : Option (Nat × Bool) → Option Bool
  | none => some true
  | some (j, want) => match ds[j]? with
    | some (some d) => match t.get d with
      | some (.bool b) => some (match want with
        | true => b
        | false => !b)
      | some (.tuple _) => some false
      | _ => none
    | _ => none
theorem wantG_eq (ops : List Oper) (x : AAct) (o : Oper) (b : Bool) (h : wantG (dsts ops) x.t o.guard = some b) : awant ops x o = some b := by
  unfold awant
  cases hg : o.guard with
  | none => rw [hg] at h; exact h
  | some p =>
    obtain ⟨j, want⟩ := p
    rw [hg] at h
    simp only [wantG, dsts_get] at h
    dsimp only
    cases hj : ops[j]? with
    | none => rw [hj] at h; cases h
    | some g =>
      rw [hj] at h
      dsimp only [Option.map_some] at h ⊢
      cases hd : g.dst with
      | none => rw [hd] at h; cases h
      | some d => rw [hd] at h; exact h
def qops (C : Ctx) (callP : FuncId → List Value → Option Value) (nt : Nat) (ds : List (Option Tmp)) : List Oper → AAct → Option AAct
  | [], x => some x
  | o :: rest, x => match wantG ds x.t o.guard with
    | some true => match qop C callP (aevO x.t) o.op with
      | some v => match aput nt x o.dst v with
        | some x' => qops C callP nt ds rest x'
        | none => none
      | none => none
    | some false => match aput nt x o.dst (.tuple #[]) with
      | some x' => qops C callP nt ds rest x'
      | none => none
    | none => none

def rec0 : Rec := ⟨0, [], [], 0, 0⟩
def sdraw (all : List Oper) : List Oper → List Nat → Bool
  | [], _ => true
  | o :: rest, bs => edgesLt bs.length o.after.toList && achk all o (emask bs o.after.toList) rec0 all 0 (List.replicate bs.length rec0) && sdraw all rest (bs ++ [emask bs o.after.toList])
theorem achk_quiet (all : List Oper) (o : Oper) (m lo hi c : Nat) : ∀ (xs : List Oper) (k : Nat) (rs : List Rec), achk all o m ⟨c, [], [], lo, hi⟩ xs k rs = achk all o m rec0 xs k (List.replicate rs.length rec0)
  | [], k, rs => by cases rs <;> simp [achk]
  | x :: xs, k, [] => by simp [achk]
  | x :: xs, k, r :: rs => by
    have h1 : noClash r ⟨c, [], [], lo, hi⟩ = true := rfl
    have h2 : noClash rec0 rec0 = true := rfl
    simp only [List.length_cons, List.replicate_succ, achk, h1, h2]
    rw [achk_quiet all o m lo hi c xs (k + 1) rs]

section
variable {C : Ctx} {call : FuncId → List Value → A AEnd} {callP : FuncId → List Value → Option Value} {nt : Nat}
theorem quiet_eff (hc : ∀ f args v, callP f args = some v → call f args = A.ret (.returned v)) {all : List Oper} {o : Oper} {rest : List Oper} {x x' : AAct} (h : qops C callP nt (dsts all) (o :: rest) x = some x') :
    ∃ v x1, aeff C call all x o = A.ret (.put v) ∧ aput nt x o.dst v = some x1 ∧ qops C callP nt (dsts all) rest x1 = some x' := by
  unfold qops at h
  split at h
  · rename_i hw
    split at h
    · rename_i v hv
      split at h
      · rename_i x1 hx1
        exact ⟨v, x1, qop_eff hc (wantG_eq _ _ _ _ hw) hv, hx1, h⟩
      · cases h
    · cases h
  · rename_i hw
    split at h
    · rename_i x1 hx1
      refine ⟨_, x1, ?_, hx1, h⟩
      unfold aeff
      rw [wantG_eq _ _ _ _ hw]
      rfl
    · cases h
  · cases h
theorem qops_run (hc : ∀ f args v, callP f args = some v → call f args = A.ret (.returned v)) {all : List Oper} (s : AS) : ∀ (l : List Oper) (x x' : AAct), qops C callP nt (dsts all) l x = some x' →
    (aops C call nt all l x).run s = some ((none, x'), s)
  | [], x, x', h => by cases h; rfl
  | o :: rest, x, x', h => by
    obtain ⟨v, x1, h1, h2, h3⟩ := quiet_eff hc h
    have ih := qops_run hc s rest x1 x' h3
    show A.bindRun (astep C call nt all x o) _ s = _
    have hs : (astep C call nt all x o).run s = some ((none, x1), s) := by
      unfold astep
      rw [h1]
      change (A.ofOption (aapply nt x o.dst (Eff.put v))).run s = _
      simp only [aapply, h2]
      rfl
    unfold A.bindRun
    rw [hs]
    exact ih
theorem iso_back (s : AS) : s.back s.iso = s := by cases s; rfl
theorem qdraw_run (hc : ∀ f args v, callP f args = some v → call f args = A.ret (.returned v)) {all : List Oper} (s : AS) : ∀ (l : List Oper) (bs : List Nat) (recs : List Rec) (x x' : AAct), qops C callP nt (dsts all) l x = some x' →
    sdraw all l bs = true → recs.length = bs.length → (adraw C call nt all l bs recs x).run s = some ((none, x'), s)
  | [], bs, recs, x, x', h, _, _ => by cases h; rfl
  | o :: rest, bs, recs, x, x', h, hd, hl => by
    obtain ⟨v, x1, h1, h2, h3⟩ := quiet_eff hc h
    unfold sdraw at hd
    simp only [Bool.and_eq_true] at hd
    obtain ⟨⟨d1, d2⟩, d3⟩ := hd
    have ih := fun r => qdraw_run hc s rest (bs ++ [emask bs o.after.toList]) (recs ++ [r]) x1 x' h3 d3 (by simp [hl])
    unfold adraw
    have hi : (isolate (aeff C call all x o)).run s = some ((Eff.put v, ⟨0, [], [], s.n, s.n⟩), s) := by
      rw [h1]
      unfold isolate
      dsimp only [A.ret]
      rw [iso_back]
      rfl
    show A.bindRun (isolate (aeff C call all x o)) _ s = _
    unfold A.bindRun
    rw [hi]
    simp only [achk_quiet, hl, d1, d2, Bool.and_self, h2]
    exact ih _
theorem W_quiet (hc : ∀ f args v, callP f args = some v → call f args = A.ret (.returned v)) {fuel : Nat} {id : Nat} {ops : Array Oper} {drawn : Bool} {x : AAct} {s : AS} {Q : AExit × AAct → AS → Prop}
    (hd : drawn = false ∨ sdraw ops.toList ops.toList [] = true) (h : ∃ x', qops C callP nt (dsts ops.toList) ops.toList x = some x' ∧ Q (.normal, x') s) : W (acode C call nt fuel (.region id ops drawn) x) s Q := by
  obtain ⟨x', h, hQ⟩ := h
  rw [W_region]
  refine ⟨(none, x'), s, ?_, hQ⟩
  unfold aregion
  cases drawn with
  | false => exact qops_run hc s _ x x' h
  | true => exact qdraw_run hc s _ [] [] x x' h (hd.resolve_left (by simp)) rfl
end

/-! ### 2. What is said by names -/
theorem aput_lt {nt d : Nat} (x : AAct) (v : Value) (h : d < nt) : aput nt x (some d) v = some ⟨x.t.set d v, x.d⟩ := by
  have : Nat.blt d nt = true := by rw [Nat.blt_eq]; exact h
  simp only [aput, this]
theorem awant_none (all : List Oper) (x : AAct) (d : Option Tmp) (op : Op) (ty : TypeId) (pos : String) (after : Array Edge) : awant all x ⟨d, op, ty, pos, after, none⟩ = some true := rfl
theorem aevO_tmp (t : Tr Value) (i : Nat) : aevO t (.tmp i) = t.get i := rfl
theorem aevO_func (t : Tr Value) (f : FuncId) : aevO t (.func f) = some (.func (.func f) #[] #[]) := rfl
theorem aevO_int (t : Tr Value) (k : IntKind) (n : Int) : aevO t (.const (.int k n)) = some (.int k n) := rfl
theorem aevO_bool (t : Tr Value) (b : Bool) : aevO t (.const (.bool b)) = some (.bool b) := rfl
theorem aevO_str (t : Tr Value) (b : ByteArray) : aevO t (.const (.string b)) = some (.string b) := rfl
theorem aevO_snil (t : Tr Value) : aevO t (.const (.slice none 0 0)) = some (.slice none 0 0) := rfl
/-- A settled slice of pure values. -/
def vl (l : List Value) : Value := .func (.yield 0) l.toArray #[]

/-! ### 2b. Operations, one by one -/
theorem qop_move (C : Ctx) (callP : FuncId → List Value → Option Value) (ev : Operand → Option Value) (x : Operand) : qop C callP ev (.move x) = ev x := rfl
theorem qop_assign (C : Ctx) (callP : FuncId → List Value → Option Value) (ev : Operand → Option Value) (x : Operand) : qop C callP ev (.assign x) = ev x := rfl
theorem qop_pick (C : Ctx) (callP : FuncId → List Value → Option Value) (ev : Operand → Option Value) (c a b : Operand) : qop C callP ev (.pick c a b) = (match ev c with
    | some (.bool true) => ev a
    | some (.bool false) => ev b
    | _ => none) := rfl
theorem qop_build (C : Ctx) (callP : FuncId → List Value → Option Value) (ev : Operand → Option Value) (t : TypeId) (ps : Array (Nat × Operand)) : qop C callP ev (.build t ps) = (match evps ev ps.toList with
    | some ps => abuild C t ps
    | none => none) := rfl
theorem qop_nilCheck (C : Ctx) (callP : FuncId → List Value → Option Value) (ev : Operand → Option Value) (x : Operand) : qop C callP ev (.nilCheck x) = (match ev x with
    | some v => anilCheck v
    | none => none) := rfl
theorem qop_binOp (C : Ctx) (callP : FuncId → List Value → Option Value) (ev : Operand → Option Value) (op : BinOp) (t u : TypeId) (x y : Operand) : qop C callP ev (.binOp op t x y u) = (match ev x, ev y with
    | some a, some b => abin C op t x y a b
    | _, _ => none) := rfl
theorem qop_unOp (C : Ctx) (callP : FuncId → List Value → Option Value) (ev : Operand → Option Value) (op : UnOp) (t : TypeId) (x : Operand) : qop C callP ev (.unOp op t x) = (match ev x with
    | some a => aun op a
    | none => none) := rfl
theorem qop_convert (C : Ctx) (callP : FuncId → List Value → Option Value) (ev : Operand → Option Value) (a b : TypeId) (x : Operand) : qop C callP ev (.convert a b x) = (match ev x with
    | some v => aconv C a b v
    | none => none) := rfl
theorem qop_makeInterface (C : Ctx) (callP : FuncId → List Value → Option Value) (ev : Operand → Option Value) (t : TypeId) (x : Operand) : qop C callP ev (.makeInterface t x) = (match ev x with
    | some a => amkIface C t a
    | none => none) := rfl
theorem qop_slice (C : Ctx) (callP : FuncId → List Value → Option Value) (ev : Operand → Option Value) (t : TypeId) (x : Operand) (l h m : Option Operand) : qop C callP ev (.slice t x l h m) = (match ev x, evo ev l, evo ev h, evo ev m with
    | some a, some l, some h, some m => aslice C t a l h m
    | _, _, _, _ => none) := rfl
theorem qop_fieldAddr (C : Ctx) (callP : FuncId → List Value → Option Value) (ev : Operand → Option Value) (t : TypeId) (x : Operand) (f : Nat) : qop C callP ev (.fieldAddr t x f) = (match ev x with
    | some a => afieldAddr C t a f
    | none => none) := rfl
theorem qop_field (C : Ctx) (callP : FuncId → List Value → Option Value) (ev : Operand → Option Value) (t : TypeId) (x : Operand) (f : Nat) : qop C callP ev (.field t x f) = (match ev x with
    | some a => afield C t a f
    | none => none) := rfl
theorem qop_indexAddr (C : Ctx) (callP : FuncId → List Value → Option Value) (ev : Operand → Option Value) (t : TypeId) (x i : Operand) : qop C callP ev (.indexAddr t x i) = (match ev x, ev i with
    | some a, some b => aindexAddr C t a b
    | _, _ => none) := rfl
theorem qop_index (C : Ctx) (callP : FuncId → List Value → Option Value) (ev : Operand → Option Value) (t : TypeId) (x i : Operand) : qop C callP ev (.index t x i) = (match ev x, ev i with
    | some a, some b => aindex C t a b
    | _, _ => none) := rfl
theorem qop_extract (C : Ctx) (callP : FuncId → List Value → Option Value) (ev : Operand → Option Value) (x : Operand) (i : Nat) : qop C callP ev (.extract x i) = (match ev x with
    | some a => aextract a i
    | none => none) := rfl
theorem qop_len (C : Ctx) (callP : FuncId → List Value → Option Value) (ev : Operand → Option Value) (as : Array Operand) (ts : Array TypeId) : qop C callP ev (.call ⟨.builtin .len, as, ts⟩) = (match ts.toList, evs ev as.toList with
    | t :: _, some [x] => alen C t x
    | _, _ => none) := rfl
theorem qop_min (C : Ctx) (callP : FuncId → List Value → Option Value) (ev : Operand → Option Value) (as : Array Operand) (ts : Array TypeId) : qop C callP ev (.call ⟨.builtin .min, as, ts⟩) = (match evs ev as.toList with
    | some l => amin false l
    | none => none) := rfl
theorem qop_max (C : Ctx) (callP : FuncId → List Value → Option Value) (ev : Operand → Option Value) (as : Array Operand) (ts : Array TypeId) : qop C callP ev (.call ⟨.builtin .max, as, ts⟩) = (match evs ev as.toList with
    | some l => amin true l
    | none => none) := rfl
theorem qop_call (C : Ctx) (callP : FuncId → List Value → Option Value) (ev : Operand → Option Value) (f : Operand) (as : Array Operand) (ts : Array TypeId) : qop C callP ev (.call ⟨.value f, as, ts⟩) = (match ev f, evs ev as.toList with
    | some (.func (.func g) first cap), some l => match isFn C g with
      | true => callP g (first.toList ++ l ++ cap.toList)
      | false => match C.ext g with
        | some o => o (first.toList ++ l ++ cap.toList)
        | none => none
    | _, _ => none) := rfl
theorem qop_makeFunc (C : Ctx) (callP : FuncId → List Value → Option Value) (ev : Operand → Option Value) (f : FuncId) (a b : Array Operand) : qop C callP ev (.makeFunc (.func f) a b) = (match evs ev a.toList, evs ev b.toList with
    | some a, some b => some (.func (.func f) a.toArray b.toArray)
    | _, _ => none) := rfl
theorem qop_load (C : Ctx) (callP : FuncId → List Value → Option Value) (ev : Operand → Option Value) (t : TypeId) (x : Operand) : qop C callP ev (.load t x) = (match ev x with
    | some (.func (.method _) cells _) => afload C t cells.toList
    | _ => none) := rfl
theorem qop_typeAssert (C : Ctx) (callP : FuncId → List Value → Option Value) (ev : Operand → Option Value) (x : Operand) (t u : TypeId) : qop C callP ev (.typeAssert x t u true) = (match ev x with
    | some a => aassert C a u
    | none => none) := rfl

/-! ### 3. A call by its body -/
theorem pure_of_code {P : Program} {C : Ctx} (hC : C.Ok P) (hf : P.follows .mixedOrders = true) {call : FuncId → List Value → A AEnd} (hcall : CallOk P call) {f : FuncId} {fn : Func} {c : Code} {loops : Nat} {args : List Value} {r : Tmp} {v : Value}
    (h1 : C.fn f = some fn) (h2 : fn.body = some c) (h3 : fn.results = #[.tmp r]) (h4 : args.length ≤ fn.ntmps) (ha : args.all (below 0 4) = true) (hv : below 0 5 v = true) (hn : ∀ s, W (match C.frz f with
      | true => do
        let v' ← asettleV C 5 v
        pure (.returned v')
      | false => pure (.returned v)) s fun e _ => e = AEnd.returned v)
    (h : W (acode C call fn.ntmps loops c ⟨tmpsOf 0 args, []⟩) AS.empty fun q _ => (q.1 = .normal ∨ q.1 = .ret) ∧ q.2.d = [] ∧ q.2.t.get r = some v) : PureFn P f args (.returned v) := by
  have hb : W (abody C call loops f args) AS.empty fun e _ => e = .returned v := by
    unfold abody
    rw [h1]
    dsimp only
    rw [Nat.ble_eq_true_of_le h4, h2]
    dsimp only
    rw [W_bind]
    refine h.mono ?_
    rintro ⟨q, x⟩ s1 ⟨hq, hd, hg⟩
    dsimp only at hq hd hg
    have hl : W (aleaves C call loops fn x.t x.d .returning) s1 fun e _ => e = .returned v := by
      rw [hd, aleaves, W_bind, h3]
      unfold aresults
      rw [W_bind]
      show W (aresult C x.t (.tmp r) >>= _) s1 _
      rw [W_bind]
      show W (A.ofOption (x.t.get r)) s1 _
      rw [hg, W_some]
      show W (A.ret [v]) s1 _
      rw [W_ret]
      show W (A.ret v) s1 _
      rw [W_ret, W_pure]
    rcases hq with rfl | rfl <;> exact hl
  have hs : W (asettleEnd C f (abody C call loops f args)) AS.empty fun e _ => e = .returned v := by
    unfold asettleEnd
    rw [W_bind]
    refine hb.mono ?_
    rintro e s1 rfl
    exact hn s1
  obtain ⟨e, s1, hr, rfl⟩ := hs
  refine pure_of_run (m := acall1 C call loops f args) (fun Pm ρ s w args' hargs => call1_ok hC hcall hf f args args' Pm ρ s w hargs) ?_ ha hv
  unfold acall1 afin
  dsimp only
  rw [show AS.empty.iso = AS.empty from rfl, hr]
  dsimp only
  split <;> rfl
end
end Go.Proofs.BhE
