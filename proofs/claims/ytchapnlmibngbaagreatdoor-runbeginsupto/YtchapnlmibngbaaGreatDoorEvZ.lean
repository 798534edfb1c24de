/- What a call hands back is settled; what it made for itself is let go. -/
import Derived.Test.YtchapnlmibngbaaGreatDoorEvU
set_option linter.all false
namespace Go.Proofs.BhE
open Go
noncomputable section

/-! ### 1. Where values lead -/
mutual
theorem VRel.move {ρ1 ρ2 : Rho} {S : Nat → Prop} (e : ∀ i, S i → ρ2 i = ρ1 i) (ez : ∀ b o, ρ1.fz b = some o → ρ2.fz b = some o) : ∀ {v v' : Value}, VRel ρ1 v v' → Ids S v → VRel ρ2 v v'
  | _, _, .bool b, _ => .bool b
  | _, _, .int k n, _ => .int k n
  | _, _, .str s, _ => .str s
  | _, _, .pnil, _ => .pnil
  | _, _, .ptr h, .ptr hs => .ptr ((e _ hs).trans h)
  | _, _, .snil, _ => .snil
  | _, _, .slx h, .sl hs => .slx ((e _ hs).trans h)
  | _, _, .slu h h2 h3, .sl hs => .slu ((e _ hs).trans h) h2 h3
  | _, _, .slz h, .sl hs => .slz ((e _ hs).trans h)
  | _, _, .mnil, _ => .mnil
  | _, _, .map h, .map hs => .map ((e _ hs).trans h)
  | _, _, .func h h2, .func hs hs2 => .func (VRels.move e ez h hs) (VRels.move e ez h2 hs2)
  | _, _, .list h h2 h3 h4 h5 h6, .list hs => .list (ez _ _ h) h2 (VRels.move e ez h3 hs) h4 h5 h6
  | _, _, .listz h h2 h3, _ => .listz h h2 h3
  | _, _, .fptr h h2, .fptr hs => .fptr (ez _ _ h) (VRels.move e ez h2 hs)
  | _, _, .nfunc, _ => .nfunc
  | _, _, .iface h, .iface hs => .iface (VRel.move e ez h hs)
  | _, _, .niface, _ => .niface
  | _, _, .agg h, .agg hs => .agg (VRels.move e ez h hs)
  | _, _, .tuple h, .tuple hs => .tuple (VRels.move e ez h hs)
theorem VRels.move {ρ1 ρ2 : Rho} {S : Nat → Prop} (e : ∀ i, S i → ρ2 i = ρ1 i) (ez : ∀ b o, ρ1.fz b = some o → ρ2.fz b = some o) : ∀ {l l' : List Value}, VRels ρ1 l l' → Idss S l → VRels ρ2 l l'
  | _, _, .nil, _ => .nil
  | _, _, .cons h t, .cons hs ts => .cons (VRel.move e ez h hs) (VRels.move e ez t ts)
end

def spotless (a : Addr) (n : Nat) : Bool := match a.spot with
  | none => Nat.blt a.block n
  | some _ => false
theorem spotless_spec {a : Addr} {n : Nat} (h : spotless a n = true) : a.block < n := by
  unfold spotless at h
  split at h
  · rwa [Nat.blt_eq] at h
  · cases h
/-- All that a value leads to has a number under n. -/
def below (n : Nat) : Nat → Value → Bool
  | 0, _ => false
  | d + 1, v => match v with
    | .bool _ => true
    | .int _ _ => true
    | .string _ => true
    | .pointer none => true
    | .pointer (some a) => spotless a n
    | .slice none _ _ => true
    | .slice (some a) _ _ => spotless a n
    | .map none => true
    | .map (some i) => Nat.blt i n
    | .func (.func _) f c => f.toList.all (below n d) && c.toList.all (below n d)
    | .func (.yield k) items _ => match Nat.blt k 2 with
      | true => true
      | false => (flatC items.toList).all (below n d)
    | .func (.method _) cells _ => cells.toList.all (below n d)
    | .nilFunc => true
    | .iface _ v => below n d v
    | .nilIface => true
    | .agg c => c.toList.all (below n d)
    | .tuple c => c.toList.all (below n d)
    | _ => false

theorem below_ids {ρ : Rho} (n : Nat) : ∀ (d : Nat) {v v' : Value}, below n d v = true → VRel ρ v v' → Ids (fun i => i < n) v := by
  intro d
  induction d with
  | zero => intro v v' h; cases h
  | succ d ih =>
    have all : ∀ {l l' : List Value}, l.all (below n d) = true → VRels ρ l l' → Idss (fun i => i < n) l := by
      intro l
      induction l with
      | nil => intro l' _ _; exact .nil
      | cons x xs ihx =>
        intro l' h hr
        simp only [List.all_cons, Bool.and_eq_true] at h
        cases hr with
        | cons h1 h2 => exact .cons (ih h.1 h1) (ihx h.2 h2)
    intro v v' h hr
    cases hr with
    | bool b => exact .bool b
    | int k n => exact .int k n
    | str s => exact .str s
    | pnil => exact .pnil
    | ptr _ => exact .ptr (spotless_spec (a := ⟨_, _, none⟩) h)
    | snil => exact .snil
    | slx _ => exact .sl (spotless_spec (a := ⟨_, _, none⟩) h)
    | slu _ _ _ => exact .sl (spotless_spec (a := ⟨_, _, none⟩) h)
    | slz _ => exact .sl (spotless_spec (a := ⟨_, _, none⟩) h)
    | mnil => exact .mnil
    | map _ => exact .map (by simp only [below, Nat.blt_eq] at h; exact h)
    | func h1 h2 =>
      simp only [below, Bool.and_eq_true] at h
      exact .func (all h.1 h1) (all h.2 h2)
    | list h1 h2 h3 h4 h5 h6 =>
      simp only [below] at h
      split at h
      · rename_i hk
        rw [Nat.blt_eq] at hk
        exact .list ((h6 hk).mono fun _ f => f.elim)
      · exact .list (all h h3)
    | listz _ _ _ => exact .list .nil
    | fptr _ h1 => exact .fptr (all h h1)
    | nfunc => exact .nfunc
    | iface h1 => exact .iface (ih h h1)
    | niface => exact .niface
    | agg h1 => exact .agg (all h h1)
    | tuple h1 => exact .tuple (all h h1)
theorem belows_ids {ρ : Rho} {n d : Nat} : ∀ {l l' : List Value}, l.all (below n d) = true → VRels ρ l l' → Idss (fun i => i < n) l := by
  intro l
  induction l with
  | nil => intro l' _ _; exact .nil
  | cons x xs ih =>
    intro l' h hr
    simp only [List.all_cons, Bool.and_eq_true] at h
    cases hr with
    | cons h1 h2 => exact .cons (below_ids n d h.1 h1) (ih h.2 h2)

/-! ### 2. The model rests -/
section
variable {C : Ctx} {Pm : Nat → Prop} {ρ : Rho} {s : AS} {w : World}
def Rest (Pm : Nat → Prop) (ρ : Rho) (s : AS) (w : World) {α : Type} (a : A α) (R : Rho → α → Prop) : Prop :=
  ∀ x s', a.run s = some (x, s') → Pre Pm ρ s w s' → ∃ ρ', Step Pm ρ s w ρ' s' w ∧ R ρ' x
theorem rest_pure {α : Type} {x : α} {R : Rho → α → Prop} (h : R ρ x) : Rest Pm ρ s w (pure x) R := by
  intro x' s' e hp
  cases e
  exact ⟨ρ, Step.refl hp, h⟩
theorem rest_fail {α : Type} {R : Rho → α → Prop} : Rest Pm ρ s w A.fail R := by
  intro x' s' e hp
  cases e
theorem rest_bind {α β : Type} {a : A α} {f : α → A β} {R : Rho → α → Prop} {R' : Rho → β → Prop} (h : Rest Pm ρ s w a R)
    (k : ∀ ρ1 s1 x, Rho.ext ρ ρ1 → R ρ1 x → Rest Pm ρ1 s1 w (f x) R') : Rest Pm ρ s w (a >>= f) R' := by
  intro z s2 hz hp
  obtain ⟨x, s1, h1, h2⟩ := A.bindRun_some (a := a) (f := f) hz
  obtain ⟨ρ1, st1, r1⟩ := h x s1 h1 (hp.first ((f x).mono _ _ _ h2))
  obtain ⟨ρ2, st2, r2⟩ := k ρ1 s1 x st1.ext r1 z s2 h2 (hp.next (a.mono _ _ _ h1) st1)
  exact ⟨ρ2, st1.trans st2 (a.mono _ _ _ h1).n ((f x).mono _ _ _ h2).n, r2⟩

/-! ### 3. A row is settled -/
def Rho.settle (ρ : Rho) (b : Nat) (o : Obj) : Rho := ⟨ρ.at_, fun b' => if b' = b then some o else ρ.fz b'⟩

theorem Step.settle {i : Nat} {s' : AS} {sf : AS} {p : Place} {o : Obj} (hp : Pre Pm ρ s w sf) (hi : Pm i) (hl : s.live i) (hρ : ρ i = some p) (ho : w.heap[p.block]? = some o)
    (hs : s'.h = s.h.set i .dead) (hn : s'.n = s.n) : Step Pm ρ s w (ρ.settle p.block o) s' w := by
  have hilt : i < s.n := by obtain ⟨o, h1, _⟩ := hl; exact hp.lt h1
  have hext : Rho.ext ρ (ρ.settle p.block o) := by
    refine ⟨fun _ _ h => h, fun b ob hb => ?_⟩
    show (if b = p.block then some o else ρ.fz b) = some ob
    split
    · rename_i e; subst e; exact absurd rfl (hp.rep.off i p _ ob hi hl hρ hb)
    · exact hb
  have live' : ∀ j, s'.live j → s.live j ∧ j ≠ i := by
    intro j hj
    obtain ⟨o', h1, h2⟩ := hj
    rw [hs, Tr.get_set] at h1
    split at h1
    · cases h1; exact h2.elim
    · exact ⟨⟨o', h1, h2⟩, by assumption⟩
  constructor
  · constructor
    · intro j o' hj hjo
      rw [hs, Tr.get_set] at hjo
      split at hjo
      · cases hjo; trivial
      · exact (hp.rep.obj j o' hj hjo).ext hext
    · intro j k q r hj hk lj lk
      exact hp.rep.inj j k q r hj hk (live' j lj).1 (live' k lk).1
    · intro b ob hb
      have hb : (if b = p.block then some o else ρ.fz b) = some ob := hb
      by_cases e : b = p.block
      · rw [if_pos e] at hb
        obtain rfl : o = ob := by simpa using hb
        rw [e]; exact ho
      · rw [if_neg e] at hb
        exact hp.rep.fz b ob hb
    · intro j q b ob hj lj hq hb
      have hb : (if b = p.block then some o else ρ.fz b) = some ob := hb
      split at hb
      · rename_i e
        subst e
        intro e2
        exact (live' j lj).2 (hp.rep.inj j i q p hj hi (live' j lj).1 hl hq hρ e2)
      · exact hp.rep.off j q b ob hj (live' j lj).1 hq hb
  · exact hext
  · exact fun _ h _ => h
  · intro j hj
    rw [hs, Tr.get_set, if_neg (by omega)]
    exact hp.new j (hn ▸ hj)
  · exact fun j _ l => (live' j l).1
  · exact Nat.le_refl _
  · exact fun _ _ _ => rfl
  · intro j q hj lj hq
    exact .inr ⟨j, q, hj, (live' j lj).1, hq, rfl⟩
  · intro b ob hb
    have hb : (if b = p.block then some o else ρ.fz b) = some ob := hb
    split at hb
    · rename_i e; subst e; exact .inr (.inr ⟨i, p, hi, hl, hρ, rfl⟩)
    · exact .inl hb
  · rfl
  · rfl
  · rfl

def capOk (n cap : Nat) : Bool := match Nat.beq (cap % 2) 0 with
  | true => Nat.ble n (cap / 2)
  | false => true
/-- A row that is made in this call is settled; what else is meant stays. -/
def asettleRow (C : Ctx) (a : Addr) (n cap : Nat) : A (Option (Bool × Nat × List Value)) :=
  ⟨fun s => match Nat.blt a.block s.thr with
    | true => some (none, s)
    | false => match s.h.get a.block with
      | some (.row e cs) => match C.inf e, C.und e with
        | some inf, some d =>
          forceL ((cs.drop a.off).take (n * inf.size)) fun cells =>
          match Nat.beq cells.length (n * inf.size) && capOk n cap && (isAggD d || Nat.beq inf.size 1) with
          | true => some (some (isAggD d, inf.size, cells), (s.touchW a.block).put a.block .dead)
          | false => none
        | _, _ => none
      | _ => none,
   fun s x s' h => by
    revert h
    split
    · intro h; cases h; exact AS.le.refl _
    · split
      · rename_i hg
        split
        · rw [forceL_eq]
          split
          · intro h; cases h; exact AS.write_le _ _ _ hg
          · intro h; cases h
        · intro h; cases h
      · intro h; cases h⟩

theorem rest_settle {i o n cap : Nat} {p : Place} (hρ : ρ i = some p) : Rest Pm ρ s w (asettleRow C ⟨i, o, none⟩ n cap) (fun ρ' x => match x with
    | none => True
    | some (g, sz, cells) => capOk n cap = true ∧ cells.length = n * sz ∧ (g = true ∨ sz = 1) ∧
      ∃ c e fr, ρ'.fz p.block = some (.cells c e fr) ∧ VRels ρ' cells (cutC c (p.base + o) (n * sz))) := by
  intro x s' h hp
  unfold asettleRow at h
  dsimp only at h
  split at h
  · cases h
    exact ⟨ρ, Step.refl hp, trivial⟩
  · rename_i hthr
    split at h
    case h_2 => cases h
    rename_i e cs hg
    split at h
    case h_2 => cases h
    rename_i inf d hinf hd
    rw [forceL_eq] at h
    split at h
    case h_2 => cases h
    rename_i hc
    cases h
    simp only [Bool.and_eq_true, Bool.or_eq_true] at hc
    obtain ⟨⟨c1, c2⟩, c3⟩ := hc
    have c1 := Nat.eq_of_beq_eq_true c1
    have hPm : Pm i := by
      refine hp.above i ?_ ?_
      · rcases Nat.lt_or_ge i s.thr with h1 | h1
        · rw [← Nat.blt_eq] at h1; rw [h1] at hthr; cases hthr
        · exact h1
      · show i < (s.touchW i).n
        rw [(AS.touchW_h i s).2]
        exact hp.lt hg
    obtain ⟨p', c, q1, ⟨fr, q2, qfr⟩, q3, q4, q5⟩ := hp.rep.obj _ _ hPm hg
    rw [hρ] at q1
    cases q1
    have st := Step.settle (s' := (s.touchW i).put i .dead) hp hPm ⟨_, hg, trivial⟩ hρ q2 (by show (s.touchW i).h.set _ _ = _; rw [(AS.touchW_h i s).1]) (by show (s.touchW i).n = _; exact (AS.touchW_h i s).2)
    refine ⟨_, st, ?_⟩
    refine ⟨c2, c1, ?_, c, e, fr, by simp [Rho.settle], ?_⟩
    · rcases c3 with c3 | c3
      · exact .inl c3
      · exact .inr (Nat.eq_of_beq_eq_true c3)
    · have hcs : VRels ρ cs (cutC c p.base cs.length) := by
        refine VRels.of_get (by rw [cutC_length]; omega) ?_
        intro k v v' hk hk'
        obtain ⟨u, hu, hr⟩ := q5 k v hk
        have hlt : k < cs.length := (List.getElem?_eq_some_iff.1 hk).1
        unfold cutC at hk'
        rw [List.getElem?_take_of_lt hlt, List.getElem?_drop] at hk'
        have : c[p.base + k]? = some v' := by simpa using hk'
        rw [this] at hu
        cases hu
        exact hr
      have h2 := (hcs.drop o).take (n * inf.size)
      rw [cutC_drop] at h2
      have hlen : n * inf.size ≤ cs.length - o := by
        rw [List.length_take, List.length_drop] at c1
        omega
      rw [cutC_take _ _ _ _ hlen] at h2
      rw [show (List.take (n * inf.size) (List.drop (⟨i, o, none⟩ : Addr).off cs)) = List.take (n * inf.size) (List.drop o cs) from rfl]
      refine VRels.ext ?_ h2
      exact st.ext

/-! ### 4. The items of cells -/
def chunk (sz : Nat) : Nat → List Value → List Value
  | 0, _ => []
  | n + 1, cs => .agg (cs.take sz).toArray :: chunk sz n (cs.drop sz)
theorem chunk_spec (sz : Nat) : ∀ (n : Nat) (cs : List Value), cs.length = n * sz → flatC (chunk sz n cs) = cs ∧ (chunk sz n cs).length = n ∧ ∀ v ∈ chunk sz n cs, v.cells.toList.length = sz
  | 0, cs, h => by
    have : cs = [] := by simpa using h
    subst this
    exact ⟨rfl, rfl, by intro v hv; cases hv⟩
  | n + 1, cs, h => by
    rw [Nat.succ_mul] at h
    obtain ⟨h1, h2, h3⟩ := chunk_spec sz n (cs.drop sz) (by simp; omega)
    refine ⟨?_, by simp [chunk, h2], ?_⟩
    · unfold chunk flatC
      rw [h1]
      simp [Value.cells]
    · intro v hv
      unfold chunk at hv
      rcases List.mem_cons.1 hv with rfl | hv
      · simp [Value.cells]; omega
      · exact h3 v hv
theorem plain_cells {v : Value} (h : plainCell v = true) : v.cells = #[v] := by
  cases v <;> first | rfl | simp [plainCell] at h
theorem flatC_plain : ∀ {l : List Value}, l.all plainCell = true → flatC l = l ∧ ∀ v ∈ l, v.cells.toList.length = 1
  | [], _ => ⟨rfl, by intro v hv; cases hv⟩
  | v :: l, h => by
    simp only [List.all_cons, Bool.and_eq_true] at h
    obtain ⟨h1, h2⟩ := flatC_plain h.2
    refine ⟨?_, ?_⟩
    · unfold flatC
      rw [h1, plain_cells h.1]
      rfl
    · intro u hu
      rcases List.mem_cons.1 hu with rfl | hu
      · rw [plain_cells h.1]; rfl
      · exact h2 u hu
def itemsOf (g : Bool) (sz n : Nat) (cells : List Value) : List Value := match g with
  | true => chunk sz n cells
  | false => cells
theorem itemsOf_spec {g : Bool} {sz n : Nat} {cells : List Value} (hl : cells.length = n * sz) (hp : cells.all plainCell = true) (hg : g = true ∨ sz = 1) :
    flatC (itemsOf g sz n cells) = cells ∧ (itemsOf g sz n cells).length = n ∧ ∀ v ∈ itemsOf g sz n cells, v.cells.toList.length = sz := by
  cases g with
  | true => exact chunk_spec sz n cells hl
  | false =>
    have h1 : sz = 1 := by simpa using hg
    subst h1
    obtain ⟨h2, h3⟩ := flatC_plain hp
    exact ⟨h2, by simpa [itemsOf] using hl, h3⟩

/-! ### 5. A value is settled -/
def asettleL (f : Value → A Value) : List Value → A (List Value)
  | [] => pure []
  | v :: l => do
    let v' ← f v
    let l' ← asettleL f l
    pure (v' :: l')
def asettleV (C : Ctx) : Nat → Value → A Value
  | 0, v => pure v
  | d + 1, v => match v with
    | .slice none _ _ => pure (.func (.yield 0) #[] #[])
    | .slice (some a) n cap => match n with
      | 0 => pure (.func (.yield 0) #[] #[])
      | _ + 1 => do
        match ← asettleRow C a n cap with
        | none => pure v
        | some (g, sz, cells) => do
          let cells' ← asettleL (asettleV C d) cells
          match cells'.all plainCell with
          | true => pure (.func (.yield (match cells'.all (below 0 4) with | true => 0 | false => 2)) (itemsOf g sz n cells').toArray #[])
          | false => A.fail
    | .agg cs => do
      let l ← asettleL (asettleV C d) cs.toList
      pure (.agg l.toArray)
    | .tuple cs => do
      let l ← asettleL (asettleV C d) cs.toList
      pure (.tuple l.toArray)
    | v => pure v

theorem rest_settleL {f : Value → A Value} (hf : ∀ {ρ : Rho} {s : AS} {v v' : Value}, VRel ρ v v' → Rest Pm ρ s w (f v) (fun ρ' x => VRel ρ' x v')) : ∀ {l l' : List Value} {ρ : Rho} {s : AS},
    VRels ρ l l' → Rest Pm ρ s w (asettleL f l) (fun ρ' x => VRels ρ' x l') := by
  intro l
  induction l with
  | nil => intro l' ρ s h; cases h; exact rest_pure .nil
  | cons v l ih =>
    intro l' ρ s h
    cases h with
    | cons h1 h2 =>
      refine rest_bind (hf h1) ?_
      intro ρ1 s1 x e1 hx
      refine rest_bind (ih (h2.ext e1)) ?_
      intro ρ2 s2 y e2 hy
      exact rest_pure (.cons (hx.ext e2) hy)

theorem rest_settleV (C : Ctx) : ∀ (d : Nat) {ρ : Rho} {s : AS} {v v' : Value}, VRel ρ v v' → Rest Pm ρ s w (asettleV C d v) (fun ρ' x => VRel ρ' x v') := by
  intro d
  induction d with
  | zero => intro ρ s v v' h; exact rest_pure h
  | succ d ih =>
    intro ρ s v v' h
    cases h with
    | snil => exact rest_pure (.listz (fun _ => rfl) (fun _ => rfl) (fun h => absurd h (by decide)))
    | agg h =>
      refine rest_bind (rest_settleL (fun h => ih h) h) ?_
      intro ρ1 s1 x e1 hx
      exact rest_pure (.agg (by simpa using hx))
    | tuple h =>
      refine rest_bind (rest_settleL (fun h => ih h) h) ?_
      intro ρ1 s1 x e1 hx
      exact rest_pure (.tuple (by simpa using hx))
    | slz h =>
      exact rest_pure (.listz (fun _ => rfl) (fun _ => rfl) (fun h => absurd h (by decide)))
    | @slx i o n c p h =>
      cases n with
      | zero =>
        exact rest_pure (.listz (fun h => by cases h) (fun h => by cases h) (fun h => absurd h (by decide)))
      | succ n =>
        refine rest_bind (rest_settle h) ?_
        intro ρ1 s1 x e1 hx
        cases x with
        | none => exact rest_pure ((VRel.slx h).ext e1)
        | some x =>
          obtain ⟨g, sz, cells⟩ := x
          obtain ⟨x1, x2, x3, c0, el, fr, x4, x5⟩ := hx
          refine rest_bind (rest_settleL (fun h => ih h) x5) ?_
          intro ρ2 s2 cells' e2 hc
          split
          case h_2 => exact rest_fail
          rename_i hpl
          have hlen : cells'.length = (n + 1) * sz := by rw [hc.length, ← x5.length, x2]
          obtain ⟨y1, y2, y3⟩ := itemsOf_spec hlen hpl x3
          refine rest_pure ?_
          have hcap : n + 1 ≤ c := by
            unfold capOk at x1
            rw [show Nat.beq (2 * c % 2) 0 = true by rw [Nat.mul_mod_right]; rfl] at x1
            have := Nat.le_of_ble_eq_true x1
            omega
          have := VRel.list (ρ := ρ2) (k := match cells'.all (below 0 4) with | true => 0 | false => 2) (cap := c) (items := (itemsOf g sz (n + 1) cells').toArray) (e2.fz _ _ x4) y3 (by
            rw [y1, y2]; exact hc) (by rw [y2]; exact hcap) (by intro hk; split at hk <;> cases hk) (by
            intro hk
            split at hk
            · rename_i hb
              rw [y1]
              exact (belows_ids hb hc).mono fun i hi => absurd hi (Nat.not_lt_zero i)
            · omega)
          simp only [y2] at this
          exact this
    | @slu i o n c el p h h2 h3 =>
      cases n with
      | zero =>
        exact rest_pure (.listz (fun h => by cases h) (fun h => by cases h) (fun h => absurd h (by decide)))
      | succ n =>
        refine rest_bind (rest_settle h) ?_
        intro ρ1 s1 x e1 hx
        cases x with
        | none => exact rest_pure ((VRel.slu h h2 h3).ext e1)
        | some x =>
          obtain ⟨g, sz, cells⟩ := x
          obtain ⟨x1, x2, x3, c0, el, fr, x4, x5⟩ := hx
          refine rest_bind (rest_settleL (fun h => ih h) x5) ?_
          intro ρ2 s2 cells' e2 hc
          split
          case h_2 => exact rest_fail
          rename_i hpl
          have hlen : cells'.length = (n + 1) * sz := by rw [hc.length, ← x5.length, x2]
          obtain ⟨y1, y2, y3⟩ := itemsOf_spec hlen hpl x3
          refine rest_pure ?_
          have := VRel.list (ρ := ρ2) (k := match cells'.all (below 0 4) with | true => 0 | false => 2) (cap := c) (items := (itemsOf g sz (n + 1) cells').toArray) (e2.fz _ _ x4) y3 (by
            rw [y1, y2]; exact hc) (by rw [y2]; exact h3) (by intro hk; split at hk <;> cases hk) (by
            intro hk
            split at hk
            · rename_i hb
              rw [y1]
              exact (belows_ids hb hc).mono fun i hi => absurd hi (Nat.not_lt_zero i)
            · omega)
          simp only [y2] at this
          exact this
    | bool b => exact rest_pure (.bool b)
    | int k n => exact rest_pure (.int k n)
    | str s => exact rest_pure (.str s)
    | pnil => exact rest_pure .pnil
    | ptr h => exact rest_pure (.ptr h)
    | mnil => exact rest_pure .mnil
    | map h => exact rest_pure (.map h)
    | func h h2 => exact rest_pure (.func h h2)
    | list h h2 h3 h4 h5 h6 => exact rest_pure (.list h h2 h3 h4 h5 h6)
    | listz h h2 h3 => exact rest_pure (.listz h h2 h3)
    | fptr h h2 => exact rest_pure (.fptr h h2)
    | nfunc => exact rest_pure .nfunc
    | iface h => exact rest_pure (.iface h)
    | niface => exact rest_pure .niface
end
end
end Go.Proofs.BhE
