/- A region whose order is drawn: what its operations touch is held apart, so that every order comes to the same. -/
import Derived.Test.YtchapnlmibngbaaGreatDoorEvL
set_option linter.all false
namespace Go.Proofs.BhE
open Go
noncomputable section

/-! ### 1. What an operation looks at -/
def opTmps (op : Op) : List Nat := op.operands.toList.filterMap fun | .tmp t => some t | _ => none
def looks (all : List Oper) (o : Oper) : List Nat :=
  opTmps o.op ++ (match o.guard with
    | some (g, _) => ((all[g]?).bind (·.dst)).toList
    | none => [])

theorem evs_congr {ev ev' : Operand → Option Value} : ∀ (l : List Operand), (∀ x ∈ l, ev x = ev' x) → evs ev l = evs ev' l
  | [], _ => rfl
  | x :: l, h => by
    unfold evs
    rw [h x List.mem_cons_self, evs_congr l fun y hy => h y (List.mem_cons_of_mem _ hy)]
theorem evps_congr {ev ev' : Operand → Option Value} : ∀ (l : List (Nat × Operand)), (∀ x ∈ l.map (·.2), ev x = ev' x) → evps ev l = evps ev' l
  | [], _ => rfl
  | (i, x) :: l, h => by
    unfold evps
    rw [h x (by simp), evps_congr l fun y hy => h y (by simp only [List.map_cons, List.mem_cons]; exact .inr hy)]
theorem evo_congr {ev ev' : Operand → Option Value} (x : Option Operand) (h : ∀ y, x = some y → ev y = ev' y) : evo ev x = evo ev' x := by
  cases x with
  | none => rfl
  | some x => unfold evo; dsimp only; rw [h x rfl]

theorem aop_congr (C : Ctx) {ev ev' : Operand → Option Value} (o : Oper) (h : ∀ x ∈ o.op.operands.toList, ev x = ev' x) : aop C ev o = aop C ev' o := by
  obtain ⟨dst, op, ty, pos, after, guard⟩ := o
  cases op <;> unfold aop <;> dsimp only at h ⊢ <;> try rfl
  case move x => rw [h x (by simp [Op.operands])]
  case assign x => rw [h x (by simp [Op.operands])]
  case pick c a b => rw [h c (by simp [Op.operands]), h a (by simp [Op.operands]), h b (by simp [Op.operands])]
  case box e x => rw [h x (by simp [Op.operands])]
  case build t ps => rw [evps_congr ps.toList fun y hy => h y (by simpa [Op.operands] using hy)]
  case buildSlice t n ps => rw [evps_congr ps.toList fun y hy => h y (by simpa [Op.operands] using hy)]
  case load t x => rw [h x (by simp [Op.operands])]
  case store t x y => rw [h x (by simp [Op.operands]), h y (by simp [Op.operands])]
  case nilCheck x => rw [h x (by simp [Op.operands])]
  case binOp op t x y yt => rw [h x (by simp [Op.operands]), h y (by simp [Op.operands])]
  case unOp op t x => rw [h x (by simp [Op.operands])]
  case convert s d x => rw [h x (by simp [Op.operands])]
  case makeInterface t x => rw [h x (by simp [Op.operands])]
  case makeFunc fn first cap =>
    cases fn <;> try rfl
    dsimp only
    rw [evs_congr first.toList fun y hy => h y (by simp [Op.operands] at hy ⊢; exact .inl hy), evs_congr cap.toList fun y hy => h y (by simp [Op.operands] at hy ⊢; exact .inr hy)]
  case makeMap t r => cases r <;> rfl
  case lookup xt x ix ok =>
    cases ok with
    | true => rfl
    | false =>
      dsimp only
      rw [h x (by simp [Op.operands]), h ix (by simp [Op.operands])]
  case mapUpdate t m k x => rw [h m (by simp [Op.operands]), h k (by simp [Op.operands]), h x (by simp [Op.operands])]
  case makeSlice t l c => rw [h l (by simp [Op.operands]), h c (by simp [Op.operands])]
  case slice t x lo hi mx =>
    rw [h x (by simp [Op.operands]), evo_congr lo fun y hy => h y (by subst hy; simp [Op.operands]), evo_congr hi fun y hy => h y (by subst hy; simp [Op.operands]),
      evo_congr mx fun y hy => h y (by subst hy; simp [Op.operands])]
  case fieldAddr t x f => rw [h x (by simp [Op.operands])]
  case field t x f => rw [h x (by simp [Op.operands])]
  case indexAddr t x y => rw [h x (by simp [Op.operands]), h y (by simp [Op.operands])]
  case index t x y => rw [h x (by simp [Op.operands]), h y (by simp [Op.operands])]
  case extract x i => rw [h x (by simp [Op.operands])]
  case typeAssert x xt t ok =>
    cases ok <;> try rfl
    dsimp only
    rw [h x (by simp [Op.operands])]
  case call c =>
    obtain ⟨callee, args, ts⟩ := c
    cases callee <;> try rfl
    case value f =>
      dsimp only
      rw [h f (by simp [Op.operands, Call.operands]), evs_congr args.toList fun y hy => h y (by simp [Op.operands, Call.operands] at hy ⊢; exact .inr hy)]
    case builtin b =>
      dsimp only
      rw [evs_congr args.toList fun y hy => h y (by simp [Op.operands, Call.operands] at hy ⊢; exact hy)]
  case defer c =>
    obtain ⟨callee, args, ts⟩ := c
    cases callee <;> try rfl
    dsimp only
    rename_i f
    rw [h f (by simp [Op.operands, Call.operands]), evs_congr args.toList fun y hy => h y (by simp [Op.operands, Call.operands] at hy ⊢; exact .inr hy)]

theorem aeff_congr (C : Ctx) (call : FuncId → List Value → A AEnd) (all : List Oper) {x y : AAct} (o : Oper) (h : ∀ t ∈ looks all o, x.t.get t = y.t.get t) :
    aeff C call all x o = aeff C call all y o := by
  have hev : ∀ z ∈ o.op.operands.toList, aevO x.t z = aevO y.t z := by
    intro z hz
    cases z with
    | tmp t =>
      refine h t (List.mem_append_left _ ?_)
      unfold opTmps
      rw [List.mem_filterMap]
      exact ⟨_, hz, rfl⟩
    | _ => rfl
  have hw : awant all x o = awant all y o := by
    unfold awant
    cases hg : o.guard with
    | none => rfl
    | some gw =>
      obtain ⟨g, want⟩ := gw
      dsimp only
      cases hj : all[g]? with
      | none => rfl
      | some oj =>
        dsimp only
        cases hd : oj.dst with
        | none => rfl
        | some d =>
          dsimp only
          rw [h d (List.mem_append_right _ (by rw [hg]; simp [hj, hd]))]
  unfold aeff
  rw [hw]
  split
  · rfl
  · rfl
  · split
    · rename_i p hp
      rw [hev p (by rw [hp]; simp [Op.operands])]
    · rw [aop_congr C o hev]

def restr (t : Tr Value) : List Nat → Tr Value
  | [] => .leaf
  | k :: l => match t.get k with
    | some v => (restr t l).set k v
    | none => restr t l
theorem restr_some {t : Tr Value} : ∀ {l : List Nat} {k : Nat} {v : Value}, (restr t l).get k = some v → t.get k = some v ∧ k ∈ l
  | [], k, v, h => by rw [show restr t [] = .leaf from rfl, Tr.get_leaf] at h; cases h
  | j :: l, k, v, h => by
    unfold restr at h
    split at h
    · rename_i u hu
      rw [Tr.get_set] at h
      split at h
      · rename_i e; subst e; cases h; exact ⟨hu, List.mem_cons_self⟩
      · exact ⟨(restr_some h).1, List.mem_cons_of_mem _ (restr_some h).2⟩
    · exact ⟨(restr_some h).1, List.mem_cons_of_mem _ (restr_some h).2⟩
theorem restr_mem {t : Tr Value} : ∀ {l : List Nat} {k : Nat}, k ∈ l → (restr t l).get k = t.get k
  | [], k, h => by cases h
  | j :: l, k, h => by
    unfold restr
    rcases List.mem_cons.1 h with rfl | h
    · split
      · rename_i u hu; rw [Tr.get_set_same, hu]
      · rename_i hu
        cases hr : (restr t l).get k with
        | none => rw [hu]
        | some v => rw [← (restr_some hr).1]
    · split
      · rename_i u hu
        rw [Tr.get_set]
        split
        · rename_i e; subst e; rw [hu]
        · exact restr_mem h
      · exact restr_mem h

/-! ### 2. An operation held apart -/
structure Rec where
  mask : Nat
  rd : List Nat
  wr : List Nat
  lo : Nat
  hi : Nat

def AS.iso (s : AS) : AS := match s with
  | ⟨h, n, _, _, _⟩ => ⟨h, n, n, [], []⟩
def mergeT (thr : Nat) : List Nat → List Nat → List Nat
  | [], old => old
  | i :: l, old => match Nat.blt i thr && !(old.contains i) with
    | true => mergeT thr l (i :: old)
    | false => mergeT thr l old
theorem mergeT_old (thr : Nat) : ∀ (l old : List Nat), ∀ i ∈ old, i ∈ mergeT thr l old
  | [], old, i, h => h
  | j :: l, old, i, h => by
    unfold mergeT
    split
    · exact mergeT_old thr l _ i (List.mem_cons_of_mem _ h)
    · exact mergeT_old thr l _ i h
theorem mergeT_new (thr : Nat) : ∀ (l old : List Nat), ∀ i ∈ l, i < thr → i ∈ mergeT thr l old
  | [], old, i, h, _ => by cases h
  | j :: l, old, i, h, hi => by
    unfold mergeT
    rcases List.mem_cons.1 h with rfl | h
    · split
      · exact mergeT_old thr l _ i List.mem_cons_self
      · rename_i hb
        refine mergeT_old thr l _ i ?_
        have h1 : Nat.blt i thr = true := by rw [Nat.blt_eq]; exact hi
        rw [h1] at hb
        simpa using hb
    · split
      · exact mergeT_new thr l _ i h hi
      · exact mergeT_new thr l _ i h hi
theorem mergeT_small (thr : Nat) : ∀ (l old : List Nat), (∀ i ∈ old, i < thr) → ∀ i ∈ mergeT thr l old, i < thr
  | [], old, h, i, hi => h i hi
  | j :: l, old, h, i, hi => by
    unfold mergeT at hi
    split at hi
    · rename_i hb
      simp only [Bool.and_eq_true] at hb
      refine mergeT_small thr l _ ?_ i hi
      intro k hk
      rcases List.mem_cons.1 hk with rfl | hk
      · have := hb.1; rwa [Nat.blt_eq] at this
      · exact h k hk
    · exact mergeT_small thr l _ h i hi
def AS.back (s s' : AS) : AS := match s, s' with
  | ⟨_, _, thr, rd, wr⟩, ⟨h, n, _, rd', wr'⟩ => ⟨h, n, thr, mergeT thr rd' rd, mergeT thr wr' wr⟩

def isolate {α : Type} (a : A α) : A (α × Rec) :=
  ⟨fun s =>
    match a.run s.iso with
    | none => none
    | some (x, s') => some ((x, ⟨0, s'.rd, s'.wr, s.n, s'.n⟩), s.back s'),
   fun s x s2 h => by
    revert h
    split
    · intro h; cases h
    · rename_i y s' hy
      intro h
      cases h
      have m := a.mono _ _ _ hy
      refine ⟨m.n, rfl, fun i hi => mergeT_old _ _ _ i hi, fun i hi => mergeT_old _ _ _ i hi, ?_, fun h => mergeT_small _ _ _ h, fun h => mergeT_small _ _ _ h, fun h => m.wf h⟩
      intro i hn ht hw
      refine m.keep i hn hn fun h => hw (mergeT_new _ _ _ i h ht)⟩
theorem isolate_run {α : Type} {a : A α} {s s2 : AS} {x : α} {q : Rec} (h : (isolate a).run s = some ((x, q), s2)) :
    ∃ s', a.run s.iso = some (x, s') ∧ q = ⟨0, s'.rd, s'.wr, s.n, s'.n⟩ ∧ s2 = s.back s' := by
  unfold isolate at h
  dsimp only at h
  split at h
  · cases h
  · rename_i y s' hy
    cases h
    exact ⟨s', hy, rfl, rfl⟩

/-! ### 3. What stands ahead of what -/
def emask (bs : List Nat) : List Edge → Nat
  | [] => 0
  | e :: es => match Region.binds .any e with
    | true => emask bs es ||| (2 ^ e.on ||| bs.getD e.on 0)
    | false => emask bs es
theorem emask_bit {bs : List Nat} {b : Nat} : ∀ {es : List Edge}, (emask bs es).testBit b = true → ∃ e ∈ es, Region.binds .any e = true ∧ (b = e.on ∨ (bs.getD e.on 0).testBit b = true)
  | [], h => by simp [emask] at h
  | e :: es, h => by
    unfold emask at h
    split at h
    · rename_i he
      rw [Nat.testBit_or, Nat.testBit_or, Bool.or_eq_true, Bool.or_eq_true] at h
      rcases h with h | h | h
      · obtain ⟨e', h1, h2⟩ := emask_bit h
        exact ⟨e', List.mem_cons_of_mem _ h1, h2⟩
      · rw [Nat.testBit_two_pow] at h
        exact ⟨e, List.mem_cons_self, he, .inl (by simpa using h : e.on = b).symm⟩
      · exact ⟨e, List.mem_cons_self, he, .inr h⟩
    · obtain ⟨e', h1, h2⟩ := emask_bit h
      exact ⟨e', List.mem_cons_of_mem _ h1, h2⟩
def edgesLt (k : Nat) : List Edge → Bool
  | [] => true
  | e :: es => (match Region.binds .any e with
    | true => Nat.blt e.on k
    | false => true) && edgesLt k es
theorem edgesLt_spec {k : Nat} : ∀ {es : List Edge}, edgesLt k es = true → ∀ e ∈ es, Region.binds .any e = true → e.on < k
  | [], _, e, he, _ => by cases he
  | x :: es, h, e, he, hb => by
    unfold edgesLt at h
    rw [Bool.and_eq_true] at h
    rcases List.mem_cons.1 he with rfl | he
    · have := h.1; rw [hb] at this; rwa [Nat.blt_eq] at this
    · exact edgesLt_spec h.2 e he hb

def disj (l : List Nat) (m : List Nat) : Bool := l.all fun i => !(m.contains i)
def outside (l : List Nat) (lo hi : Nat) : Bool := l.all fun i => Nat.blt i lo || Nat.ble hi i
def noClash (r q : Rec) : Bool := disj q.rd r.wr && disj q.wr r.wr && disj q.wr r.rd && outside q.rd r.lo r.hi && outside q.wr r.lo r.hi
def apartL (all : List Oper) (x y : Oper) : Bool :=
  (match x.dst with
    | some d => !((looks all y).contains d) && (match y.dst with
      | some d' => !(Nat.beq d d')
      | none => true)
    | none => true) &&
  (match y.dst with
    | some d => !((looks all x).contains d)
    | none => true)
def achk (all : List Oper) (o : Oper) (m : Nat) (q : Rec) : List Oper → Nat → List Rec → Bool
  | x :: xs, k, r :: rs => (match m.testBit k with
    | true => true
    | false => noClash r q && apartL all x o) && achk all o m q xs (k + 1) rs
  | _, _, _ => true

structure Clear (all : List Oper) (x y : Oper) (r q : Rec) : Prop where
  rw : ∀ i ∈ q.rd, i ∉ r.wr
  ww : ∀ i ∈ q.wr, i ∉ r.wr
  wr : ∀ i ∈ q.wr, i ∉ r.rd
  rn : ∀ i ∈ q.rd, ¬ (r.lo ≤ i ∧ i < r.hi)
  wn : ∀ i ∈ q.wr, ¬ (r.lo ≤ i ∧ i < r.hi)
  dl : ∀ d, x.dst = some d → d ∉ looks all y
  dd : ∀ d, x.dst = some d → y.dst ≠ some d
  ld : ∀ d, y.dst = some d → d ∉ looks all x
theorem disj_spec {l m : List Nat} (h : disj l m = true) : ∀ i ∈ l, i ∉ m := by
  intro i hi
  unfold disj at h
  rw [List.all_eq_true] at h
  simpa using h i hi
theorem outside_spec {l : List Nat} {lo hi : Nat} (h : outside l lo hi = true) : ∀ i ∈ l, ¬ (lo ≤ i ∧ i < hi) := by
  intro i hi'
  unfold outside at h
  rw [List.all_eq_true] at h
  have := h i hi'
  rw [Bool.or_eq_true, Nat.blt_eq] at this
  rcases this with h1 | h1
  · omega
  · have := Nat.le_of_ble_eq_true h1; omega
theorem achk_spec {all : List Oper} {o : Oper} {m : Nat} {q : Rec} : ∀ {xs : List Oper} {k : Nat} {rs : List Rec}, achk all o m q xs k rs = true →
    ∀ i x r, xs[i]? = some x → rs[i]? = some r → m.testBit (k + i) = false → Clear all x o r q
  | [], k, rs, _, i, x, r, hx, _, _ => by simp at hx
  | _ :: _, k, [], _, i, x, r, _, hr, _ => by simp at hr
  | y :: xs, k, r0 :: rs, h, 0, x, r, hx, hr, hm => by
    simp at hx hr
    subst hx; subst hr
    unfold achk at h
    simp only [Nat.add_zero] at hm
    rw [hm] at h
    simp only [Bool.and_eq_true] at h
    obtain ⟨⟨h1, h2⟩, _⟩ := h
    unfold noClash at h1
    simp only [Bool.and_eq_true] at h1
    obtain ⟨⟨⟨⟨c1, c2⟩, c3⟩, c4⟩, c5⟩ := h1
    unfold apartL at h2
    simp only [Bool.and_eq_true] at h2
    obtain ⟨d1, d2⟩ := h2
    refine ⟨disj_spec c1, disj_spec c2, disj_spec c3, outside_spec c4, outside_spec c5, ?_, ?_, ?_⟩
    · intro d hd
      rw [hd] at d1
      simp only [Bool.and_eq_true] at d1
      simpa using d1.1
    · intro d hd e
      rw [hd] at d1
      simp only [e, Bool.and_eq_true] at d1
      simp at d1
    · intro d hd
      rw [hd] at d2
      simpa using d2
  | y :: xs, k, r0 :: rs, h, i + 1, x, r, hx, hr, hm => by
    unfold achk at h
    rw [Bool.and_eq_true] at h
    exact achk_spec h.2 i x r (by simpa using hx) (by simpa using hr) (by rw [show k + 1 + i = k + (i + 1) by omega]; exact hm)

/-! ### 4. A drawn region -/
def panicOk (m : Nat) : Nat → List Rec → Bool
  | _, [] => true
  | k, r :: rs => (match m.testBit k with
    | true => true
    | false => r.wr.isEmpty && Nat.beq r.lo r.hi) && panicOk m (k + 1) rs
theorem panicOk_spec {m : Nat} : ∀ {k : Nat} {rs : List Rec}, panicOk m k rs = true → ∀ i r, rs[i]? = some r → m.testBit (k + i) = false → r.wr = [] ∧ r.lo = r.hi
  | k, [], _, i, r, hr, _ => by simp at hr
  | k, r0 :: rs, h, 0, r, hr, hm => by
    simp at hr
    subst hr
    unfold panicOk at h
    simp only [Nat.add_zero] at hm
    rw [hm] at h
    simp only [Bool.and_eq_true, List.isEmpty_iff] at h
    exact ⟨h.1.1, Nat.eq_of_beq_eq_true h.1.2⟩
  | k, r0 :: rs, h, i + 1, r, hr, hm => by
    unfold panicOk at h
    rw [Bool.and_eq_true] at h
    exact panicOk_spec h.2 i r (by simpa using hr) (by rw [show k + 1 + i = k + (i + 1) by omega]; exact hm)
def restAfter (p : Nat) : List Nat → List Oper → Bool
  | _, [] => true
  | bs, o :: rest => (emask bs o.after.toList).testBit p && edgesLt bs.length o.after.toList && restAfter p (bs ++ [emask bs o.after.toList]) rest

def adraw (C : Ctx) (call : FuncId → List Value → A AEnd) (nt : Nat) (all : List Oper) : List Oper → List Nat → List Rec → AAct → A (Option Value × AAct)
  | [], _, _, x => pure (none, x)
  | o :: rest, bs, recs, x => do
    let y ← isolate (aeff C call all x o)
    match edgesLt bs.length o.after.toList && achk all o (emask bs o.after.toList) y.2 all 0 recs with
    | false => A.fail
    | true =>
      match y.1 with
      | .put v => match aput nt x o.dst v with
        | some x' => adraw C call nt all rest (bs ++ [emask bs o.after.toList]) (recs ++ [{ y.2 with mask := emask bs o.after.toList }]) x'
        | none => A.fail
      | .defer _ => A.fail
      | .panic v => match panicOk (emask bs o.after.toList) 0 recs && restAfter bs.length (bs ++ [emask bs o.after.toList]) rest with
        | true => pure (some v, ⟨.leaf, x.d⟩)
        | false => A.fail
theorem restAfter_spec {p : Nat} : ∀ {l : List Oper} {bs : List Nat}, restAfter p bs l = true → ∀ (i : Nat) (o : Oper), l[i]? = some o →
    ∃ bsx : List Nat, (∀ k, k < bs.length → bsx[k]? = bs[k]?) ∧ ∃ e ∈ o.after.toList, Region.binds .any e = true ∧ (p = e.on ∨ (bsx.getD e.on 0).testBit p = true)
  | [], bs, _, i, o, ho => by simp at ho
  | x :: l, bs, h, 0, o, ho => by
    simp at ho
    subst ho
    unfold restAfter at h
    simp only [Bool.and_eq_true] at h
    obtain ⟨e, h1, h2, h3⟩ := emask_bit h.1.1
    exact ⟨bs, fun _ _ => rfl, e, h1, h2, h3⟩
  | x :: l, bs, h, i + 1, o, ho => by
    unfold restAfter at h
    simp only [Bool.and_eq_true] at h
    obtain ⟨bsx, h1, h2⟩ := restAfter_spec h.2 i o (by simpa using ho)
    refine ⟨bsx, fun k hk => ?_, h2⟩
    rw [h1 k (by simp; omega), List.getElem?_append_left hk]
end
end Go.Proofs.BhE
