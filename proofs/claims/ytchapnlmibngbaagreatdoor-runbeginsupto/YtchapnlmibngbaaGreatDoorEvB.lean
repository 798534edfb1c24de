/- The closed run's own steps in memory: reading, writing and making cells; each is the model's own. -/
import Derived.Test.YtchapnlmibngbaaGreatDoorEvA
set_option linter.all false
namespace Go.Proofs.BhE
open Go
noncomputable section

def AddrRel (ρ : Rho) (a a' : Addr) : Prop := ∃ p, ρ a.block = some p ∧ a.spot = none ∧ a' = ⟨p.block, p.base + a.off, none⟩
theorem AddrRel.ext {ρ ρ' : Rho} (e : Rho.ext ρ ρ') {a a' : Addr} (h : AddrRel ρ a a') : AddrRel ρ' a a' := by
  obtain ⟨p, h1, h2, h3⟩ := h
  exact ⟨p, e.at_ _ _ h1, h2, h3⟩
theorem AddrRel.add {ρ : Rho} {a a' : Addr} (h : AddrRel ρ a a') (n : Nat) : AddrRel ρ (a.add n) (a'.add n) := by
  obtain ⟨p, h1, h2, rfl⟩ := h
  unfold Addr.add
  split
  · exact ⟨p, h1, h2, rfl⟩
  · exact ⟨p, h1, rfl, by simp [Nat.add_assoc]⟩
theorem VRel.addr {ρ : Rho} {a a' : Addr} (h : VRel ρ (.pointer (some a)) (.pointer (some a'))) : AddrRel ρ a a' := by
  cases h with
  | ptr h => exact ⟨_, h, rfl, rfl⟩
theorem AddrRel.val {ρ : Rho} {a a' : Addr} (h : AddrRel ρ a a') : VRel ρ (.pointer (some a)) (.pointer (some a')) := by
  obtain ⟨p, h1, h2, rfl⟩ := h
  obtain ⟨b, o, sp⟩ := a
  simp only at h2 h1
  subst h2
  exact .ptr h1

theorem AS.live_touchR (i j : Nat) (s : AS) : (s.touchR i).live j ↔ s.live j := by unfold AS.live; rw [(AS.touchR_h i s).1]
theorem AS.live_touchW (i j : Nat) (s : AS) : (s.touchW i).live j ↔ s.live j := by unfold AS.live; rw [(AS.touchW_h i s).1]

/-- The state's store is as it was: nothing has turned. -/
theorem Step.same {Pm : Nat → Prop} {ρ : Rho} {s s' : AS} {w : World} {sf : AS} (h : Pre Pm ρ s w sf) (hh : s'.h = s.h) (hn : s'.n = s.n) : Step Pm ρ s w ρ s' w where
  rep := ⟨fun i o hi ho => h.rep.obj i o hi (hh ▸ ho), fun i j p q hi hj li lj => h.rep.inj i j p q hi hj (by unfold AS.live at *; rwa [hh] at li) (by unfold AS.live at *; rwa [hh] at lj), h.rep.fz, fun i p b o hi li => h.rep.off i p b o hi (by unfold AS.live at *; rwa [hh] at li)⟩
  ext := Rho.ext.refl ρ
  dom := fun _ h _ => h
  new := fun i hi => by rw [hh]; exact h.new i (hn ▸ hi)
  dead := fun i _ l => by unfold AS.live at *; rwa [hh] at l
  size := Nat.le_refl _
  frame := fun _ _ _ => rfl
  newb := fun i p hi hl hp => .inr ⟨i, p, hi, by unfold AS.live at *; rwa [hh] at hl, hp, rfl⟩
  newz := fun _ _ h => .inl h
  os := rfl
  tape := rfl
  output := rfl

/-! ### Reading a cell -/
def aload (a : Addr) : A Value :=
  ⟨fun s =>
    match a.spot with
    | some _ => none
    | none =>
      match s.h.get a.block with
      | some (.row _ cs) =>
        match cs[a.off]? with
        | some v => some (v, s.touchR a.block)
        | none => none
      | _ => none,
   fun s x s' h => by
    revert h
    split
    · intro h; cases h
    · split
      · split
        · intro h; cases h; exact AS.touchR_le _ _
        · intro h; cases h
      · intro h; cases h⟩

theorem sim_load {P : Program} {Pm : Nat → Prop} {ρ : Rho} {s : AS} {w : World} {a a' : Addr} (ha : AddrRel ρ a a') (m : Mode) :
    SimAt P Pm ρ s w (aload a) (Go.load a' m) VRel := by
  intro x s' h hp
  obtain ⟨p, h1, h2, rfl⟩ := ha
  simp only [aload, h2] at h
  split at h
  · rename_i e cs hg
    split at h
    · rename_i v hv
      cases h
      have hPm : Pm a.block := by
        rcases AS.touchR_in a.block s with h0 | h0
        · refine hp.above _ h0 ?_
          rw [(AS.touchR_h a.block s).2]
          rcases Nat.lt_or_ge a.block s.n with h3 | h3
          · exact h3
          · rw [hp.new _ h3] at hg; cases hg
        · exact hp.rd _ h0
      obtain ⟨p', c, hp1, ⟨fr, hb, hfr⟩, hl, ht, hc⟩ := hp.rep.obj _ _ hPm hg
      rw [h1] at hp1
      cases hp1
      obtain ⟨v', hv', hr⟩ := hc _ _ hv
      refine ⟨ρ, v', w, ?_, Step.same hp (AS.touchR_h _ _).1 (AS.touchR_h _ _).2, hr⟩
      simp [Go.load, Sem.run, World.cell?, hb, hv']
    · cases h
  · cases h

/-! ### Writing a cell -/
def AS.put (s : AS) (i : Nat) (o : AObj) : AS := s.setObj i o
theorem AS.write_le (s : AS) (i : Nat) (o : AObj) {o' : AObj} (hg : s.h.get i = some o') : s.le ((s.touchW i).put i o) := by
  have h := AS.touchW_le i s
  refine ⟨h.n, h.thr, h.rd, h.wr, ?_, h.small, h.smallw, ?_⟩
  rotate_left
  · intro hw j hj0
    have hj : s.n ≤ j := by have := (AS.touchW_h i s).2; have hj : (s.touchW i).n ≤ j := hj0; omega
    show ((s.touchW i).h.set i o).get j = none
    rw [Tr.get_set, (AS.touchW_h i s).1, hw j hj]
    split
    · rename_i e; subst e; rw [hw j hj] at hg; cases hg
    · rfl
  intro j hn ht hw
  show ((s.touchW i).h.set i o).get j = _
  rw [Tr.get_set]
  split
  · rename_i e
    subst e
    rcases AS.touchW_in j s with h0 | h0
    · omega
    · exact absurd h0 hw
  · rw [(AS.touchW_h i s).1]

def plainCell : Value → Bool
  | .agg _ => false
  | .tuple _ => false
  | _ => true

def astore (a : Addr) (v : Value) : A Unit :=
  ⟨fun s =>
    match plainCell v with
    | false => none
    | true =>
    match a.spot with
    | some _ => none
    | none =>
      match s.h.get a.block with
      | some (.row e cs) =>
        match Nat.blt a.off cs.length with
        | true => forceL (cs.set a.off v) fun l => some ((), (s.touchW a.block).put a.block (.row e l))
        | false => none
      | _ => none,
   fun s x s' h => by
    revert h
    split
    · intro h; cases h
    · split
      · intro h; cases h
      · split
        · rename_i hg
          split
          · rw [forceL_eq]; intro h; cases h; exact AS.write_le _ _ _ hg
          · intro h; cases h
        · intro h; cases h⟩

theorem plainCell_rel {ρ : Rho} {v v' : Value} (h : VRel ρ v v') (hv : plainCell v = true) : plainCell v' = true := by
  cases h <;> first | rfl | simp [plainCell] at hv

theorem run_store_cell {P : Program} {w : World} {a : Addr} {m : Mode} {v u : Value} (hv : plainCell v = true) (hc : w.cell? a = some u) (hf : w.frozen? a = false) :
    (Go.store a v m).run P w = .ok () (w.setCell a v) := by
  cases v <;> simp [plainCell] at hv <;> simp [Go.store, Sem.run, hc, hf]

theorem ObjOk.other {ρ : Rho} {w w' : World} {i : Nat} {o : AObj} (h : ObjOk ρ w i o) (hb : ∀ p, o.alive → ρ i = some p → w'.heap[p.block]? = w.heap[p.block]?) : ObjOk ρ w' i o := by
  cases o with
  | dead => trivial
  | row e cs =>
    obtain ⟨p, c, h1, h2, h3, h4, h5⟩ := h
    exact ⟨p, c, h1, by rw [hb p trivial h1]; exact h2, h3, h4, h5⟩
  | map es cl =>
    obtain ⟨p, es', h1, h2, h3⟩ := h
    exact ⟨p, es', h1, by rw [hb p trivial h1]; exact h2, h3⟩
theorem ObjOk.ext {ρ ρ' : Rho} {w : World} {i : Nat} {o : AObj} (h : ObjOk ρ w i o) (e : Rho.ext ρ ρ') : ObjOk ρ' w i o := by
  cases o with
  | dead => trivial
  | row el cs =>
    obtain ⟨p, c, h1, h2, h3, h4, h5⟩ := h
    exact ⟨p, c, e.at_ _ _ h1, h2, h3, h4, fun k v hk => let ⟨v', a, b⟩ := h5 k v hk; ⟨v', a, b.ext e⟩⟩
  | map es cl =>
    obtain ⟨p, es', h1, h2, h3, h4, h5⟩ := h
    exact ⟨p, es', e.at_ _ _ h1, h2, h3.ext e, h4.ext e, h5⟩

theorem AS.live_put {s : AS} {i j : Nat} {o : AObj} (h : (s.put i o).live j) : (j = i ∧ o.alive) ∨ (j ≠ i ∧ s.live j) := by
  obtain ⟨o', h1, h2⟩ := h
  change (s.h.set i o).get j = some o' at h1
  rw [Tr.get_set] at h1
  split at h1
  · cases h1; exact .inl ⟨by assumption, h2⟩
  · exact .inr ⟨by assumption, o', h1, h2⟩

/-- One object has turned in its own block. -/
theorem Step.write {Pm : Nat → Prop} {ρ : Rho} {s s' : AS} {w w' : World} {sf : AS} {i : Nat} {o : AObj} {p : Place} (h : Pre Pm ρ s w sf) (hi : Pm i)
    (hl : s.live i) (hp : ρ i = some p) (hs : s'.h = s.h.set i o) (hn : s'.n = s.n) (ho : ObjOk ρ w' i o)
    (hother : ∀ b, b ≠ p.block → w'.heap[b]? = w.heap[b]?) (hsize : w'.heap.size = w.heap.size) (hos : w'.os = w.os) (ht : w'.tape = w.tape) (hout : w'.output = w.output) :
    Step Pm ρ s w ρ s' w' := by
  have live' : ∀ j, s'.live j → s.live j := by
    intro j hj
    obtain ⟨o', h1, h2⟩ := hj
    rw [hs, Tr.get_set] at h1
    split at h1
    · rename_i e; subst e; exact hl
    · exact ⟨o', h1, h2⟩
  constructor
  · constructor
    · intro j o' hj hjo
      rw [hs, Tr.get_set] at hjo
      split at hjo
      · rename_i e; subst e; cases hjo; exact ho
      · rename_i hne
        refine (h.rep.obj j o' hj hjo).other fun q halive hq => hother _ fun e => hne ?_
        exact h.rep.inj j i q p hj hi ⟨o', hjo, halive⟩ hl hq hp e
    · intro j k q r hj hk lj lk
      exact h.rep.inj j k q r hj hk (live' j lj) (live' k lk)
    · intro b o' hb
      rw [hother b fun e => h.rep.off i p b o' hi hl hp hb e.symm]
      exact h.rep.fz b o' hb
    · intro j q b o' hj lj
      exact h.rep.off j q b o' hj (live' j lj)
  · exact Rho.ext.refl ρ
  · exact fun _ h _ => h
  · intro j hj
    rw [hs, Tr.get_set]
    obtain ⟨o', h1, _⟩ := hl
    have : i < s.n := by
      rcases Nat.lt_or_ge i s.n with h3 | h3
      · exact h3
      · rw [h.new _ h3] at h1; cases h1
    rw [if_neg (by omega)]
    exact h.new j (hn ▸ hj)
  · exact fun j _ l => live' j l
  · omega
  · intro b hb hne
    exact hother b fun e => hne i p hi hl hp e.symm
  · intro j q hj lj hq
    exact .inr ⟨j, q, hj, live' j lj, hq, rfl⟩
  · exact fun _ _ h => .inl h
  · exact hos
  · exact ht
  · exact hout

theorem Pre.lt {Pm : Nat → Prop} {ρ : Rho} {s sf : AS} {w : World} (h : Pre Pm ρ s w sf) {i : Nat} {o : AObj} (hg : s.h.get i = some o) : i < s.n := by
  rcases Nat.lt_or_ge i s.n with h3 | h3
  · exact h3
  · rw [h.new _ h3] at hg; cases hg

theorem sim_store {P : Program} {Pm : Nat → Prop} {ρ : Rho} {s : AS} {w : World} {a a' : Addr} {v v' : Value} (ha : AddrRel ρ a a') (hv : VRel ρ v v') (m : Mode) :
    SimAt P Pm ρ s w (astore a v) (Go.store a' v' m) (fun _ _ _ => True) := by
  intro x s' h hp
  obtain ⟨p, h1, h2, rfl⟩ := ha
  simp only [astore, h2, forceL_eq] at h
  split at h
  · cases h
  rename_i hpl
  split at h
  · rename_i e cs hg
    split at h
    · rename_i hlt
      cases h
      rw [Nat.blt_eq] at hlt
      have hPm : Pm a.block := by
        rcases AS.touchW_in a.block s with h0 | h0
        · refine hp.above _ h0 ?_
          show a.block < (s.touchW a.block).n
          rw [(AS.touchW_h a.block s).2]
          exact hp.lt hg
        · exact hp.wr _ h0
      obtain ⟨p', c, hp1, ⟨fr, hb, hfr⟩, hl, ht, hc⟩ := hp.rep.obj _ _ hPm hg
      rw [h1] at hp1
      cases hp1
      obtain ⟨u', hu', _⟩ := hc a.off cs[a.off] (List.getElem?_eq_getElem hlt)
      have hsz : p.base + a.off < c.size := by
        rcases Nat.lt_or_ge (p.base + a.off) c.size with h3 | h3
        · exact h3
        · rw [Array.getElem?_eq_none h3] at hu'; cases hu'
      have hbl : p.block < w.heap.size := by
        rcases Nat.lt_or_ge p.block w.heap.size with h3 | h3
        · exact h3
        · rw [Array.getElem?_eq_none h3] at hb; cases hb
      refine ⟨ρ, (), w.setCell ⟨p.block, p.base + a.off, none⟩ v', ?_, ?_, trivial⟩
      · refine run_store_cell (plainCell_rel hv hpl) (u := u') ?_ ?_
        · simp [World.cell?, hb, hu']
        · obtain ⟨lo, hi⟩ := fr
          simp only [World.frozen?, hb]
          exact hfr.not hsz
      · refine Step.write hp hPm ⟨_, hg, trivial⟩ h1 (s' := (s.touchW a.block).put a.block (.row e (cs.set a.off v))) (o := .row e (cs.set a.off v)) ?_ ?_ ?_ ?_ ?_ rfl rfl rfl
        · show (s.touchW a.block).h.set _ _ = _
          rw [(AS.touchW_h a.block s).1]
        · show (s.touchW a.block).n = _
          exact (AS.touchW_h a.block s).2
        · refine ⟨p, c.setIfInBounds (p.base + a.off) v', h1, ⟨fr, ?_, by unfold Unfrozen at hfr ⊢; simpa using hfr⟩, by simpa using hl, by simpa using ht, ?_⟩
          · simp [World.setCell, Array.getElem?_modify, hb]
          · intro k x hk
            rw [List.getElem?_set] at hk
            split at hk
            · rename_i e1
              subst e1
              cases hk
              exact ⟨v', by simp [hsz], hv⟩
            · rename_i hne
              obtain ⟨x', hx', hr⟩ := hc k x hk
              refine ⟨x', ?_, hr⟩
              rw [Array.getElem?_setIfInBounds_ne (by omega)]
              exact hx'
        · intro b hb'
          simp [World.setCell, Array.getElem?_modify, Ne.symm hb']
        · simp [World.setCell]
    · cases h
  · cases h

/-! ### Making an object -/
def Rho.put (ρ : Rho) (i : Nat) (p : Place) : Rho := ⟨fun j => if j = i then some p else ρ j, ρ.fz⟩
theorem Rho.put_ext {ρ : Rho} {i : Nat} {p : Place} (h : ρ i = none) : Rho.ext ρ (ρ.put i p) := by
  refine ⟨?_, fun _ _ h => h⟩
  intro j q hj
  unfold Rho.put
  dsimp only
  split
  · rename_i e; subst e; rw [h] at hj; cases hj
  · exact hj

def anew (o : AObj) : A Nat :=
  ⟨fun s => some (s.n, s.push o), fun s x s' h => by
    cases h
    refine ⟨Nat.le_succ _, rfl, fun _ h => h, fun _ h => h, ?_, fun h => h, fun h => h, ?_⟩
    · intro i hi _ _
      show (s.h.set s.n o).get i = _
      rw [Tr.get_set, if_neg (by omega)]
    · intro hw i hi
      have hi : s.n + 1 ≤ i := hi
      show (s.h.set s.n o).get i = _
      rw [Tr.get_set, if_neg (by omega)]
      exact hw i (by omega)⟩

theorem Step.make {Pm : Nat → Prop} {ρ : Rho} {s s' : AS} {w w' : World} {o : AObj} {p : Place} (h : Pre Pm ρ s w s')
    (hs : s'.h = s.h.set s.n o) (hn : s'.n = s.n + 1) (ho : ObjOk (ρ.put s.n p) w' s.n o) (hpb : w.heap.size ≤ p.block)
    (hold : ∀ b, b < w.heap.size → w'.heap[b]? = w.heap[b]?) (hsize : w.heap.size ≤ w'.heap.size) (hos : w'.os = w.os) (ht : w'.tape = w.tape) (hout : w'.output = w.output) :
    Step Pm ρ s w (ρ.put s.n p) s' w' := by
  have hρ : ρ s.n = none := h.fresh s.n (Nat.le_refl _) (by omega)
  have blk : ∀ i q o', Pm i → s.h.get i = some o' → o'.alive → ρ i = some q → q.block < w.heap.size := by
    intro i q o' hi hg hal hq
    have := h.rep.obj i o' hi hg
    cases o' with
    | dead => exact hal.elim
    | row e cs =>
      obtain ⟨p', c, h1, ⟨fr, h2, _⟩, _⟩ := this
      rw [hq] at h1; cases h1
      rcases Nat.lt_or_ge q.block w.heap.size with h3 | h3
      · exact h3
      · rw [Array.getElem?_eq_none h3] at h2; cases h2
    | map es cl =>
      obtain ⟨p', c, h1, h2, _⟩ := this
      rw [hq] at h1; cases h1
      rcases Nat.lt_or_ge q.block w.heap.size with h3 | h3
      · exact h3
      · rw [Array.getElem?_eq_none h3] at h2; cases h2
  have live' : ∀ j, s'.live j → j ≠ s.n → s.live j := by
    intro j hj hne
    obtain ⟨o', h1, h2⟩ := hj
    rw [hs, Tr.get_set, if_neg hne] at h1
    exact ⟨o', h1, h2⟩
  have oldρ : ∀ j q, (ρ.put s.n p) j = some q → j ≠ s.n → ρ j = some q := by
    intro j q hj hne
    unfold Rho.put at hj
    dsimp only at hj
    rwa [if_neg hne] at hj
  have newρ : ∀ q, (ρ.put s.n p) s.n = some q → q = p := by
    intro q hj
    unfold Rho.put at hj
    dsimp only at hj
    rw [if_pos rfl] at hj
    cases hj; rfl
  have fzlt : ∀ b o', ρ.fz b = some o' → b < w.heap.size := by
    intro b o' hb
    rcases Nat.lt_or_ge b w.heap.size with h3 | h3
    · exact h3
    · have := h.rep.fz b o' hb
      rw [Array.getElem?_eq_none h3] at this; cases this
  constructor
  · constructor
    · intro i o' hi hg
      rw [hs, Tr.get_set] at hg
      split at hg
      · rename_i e; subst e; cases hg; exact ho
      · refine ((h.rep.obj i o' hi hg).other fun q hal hq => hold _ (blk i q o' hi hg hal hq)).ext (Rho.put_ext hρ)
    · intro i j q r hi hj li lj hq hr e
      by_cases ei : i = s.n <;> by_cases ej : j = s.n
      · omega
      · subst ei
        obtain ⟨oj, gj, aj⟩ := live' j lj ej
        have := blk j r oj hj gj aj (oldρ j r hr ej)
        rw [newρ q hq] at e
        omega
      · subst ej
        obtain ⟨oi, gi, ai⟩ := live' i li ei
        have := blk i q oi hi gi ai (oldρ i q hq ei)
        rw [newρ r hr] at e
        omega
      · exact h.rep.inj i j q r hi hj (live' i li ei) (live' j lj ej) (oldρ i q hq ei) (oldρ j r hr ej) e
    · intro b o' hb
      rw [hold b (fzlt b o' hb)]
      exact h.rep.fz b o' hb
    · intro i q b o' hi li hq hb
      by_cases ei : i = s.n
      · subst ei
        rw [newρ q hq]
        have := fzlt b o' hb
        omega
      · exact h.rep.off i q b o' hi (live' i li ei) (oldρ i q hq ei) hb
  · exact Rho.put_ext hρ
  · intro i hi hc
    unfold Rho.put
    dsimp only
    rw [if_neg (by omega)]
    exact hi
  · intro i hi
    rw [hs, Tr.get_set, if_neg (by omega)]
    exact h.new i (by omega)
  · intro i hi l
    exact live' i l (by omega)
  · exact hsize
  · exact fun b hb _ => hold b hb
  · intro i q hi li hq
    by_cases e : i = s.n
    · subst e; rw [newρ q hq]; exact .inl hpb
    · exact .inr ⟨i, q, hi, live' i li e, oldρ i q hq e, rfl⟩
  · exact fun _ _ h => .inl h
  · exact hos
  · exact ht
  · exact hout

/-- A row of cells, made as it stands. -/
theorem sim_newRow {P : Program} {Pm : Nat → Prop} {ρ : Rho} {s : AS} {w : World} {e : TypeId} {cs : List Value} {cs' : Array Value} (hc : VRels ρ cs cs'.toList) :
    SimAt P Pm ρ s w (anew (.row e cs)) (Go.newObj (.cells cs' e)) (fun ρ' i r => ρ' i = some ⟨r, 0, cs.length⟩) := by
  intro x s' h hp
  cases h
  refine ⟨ρ.put s.n ⟨w.heap.size, 0, cs.length⟩, w.heap.size, { w with heap := w.heap.push (.cells cs' e) }, rfl, ?_, ?_⟩
  · have hρ : ρ s.n = none := hp.fresh s.n (Nat.le_refl _) (Nat.lt_succ_self _)
    refine Step.make hp (o := .row e cs) rfl rfl ?_ (Nat.le_refl _) ?_ ?_ rfl rfl rfl
    · refine ⟨⟨w.heap.size, 0, cs.length⟩, cs', by simp [Rho.put], ⟨(0, 0), by simp, Unfrozen.zero _⟩, Nat.le_refl _, ?_, ?_⟩
      · have := hc.length
        simp at this
        simp [this]
      · intro k v hk
        obtain ⟨v', h1, h2⟩ := hc.get k v hk
        exact ⟨v', by simpa using h1, h2.ext (Rho.put_ext hρ)⟩
    · intro b hb
      simp [Array.getElem?_push, Nat.ne_of_lt hb]
    · simp
  · simp [Rho.put]

/-- A row of cells of which the first are known. -/
theorem sim_newRoom {P : Program} {Pm : Nat → Prop} {ρ : Rho} {s : AS} {w : World} {e : TypeId} {cs : List Value} {cs' rest : Array Value} {total : Nat} (hc : VRels ρ cs cs'.toList)
    (hl : cs.length ≤ total) (ht : total ≤ cs'.size + rest.size) :
    SimAt P Pm ρ s w (anew (.row e cs)) (Go.newObj (.cells (cs' ++ rest) e)) (fun ρ' i r => ρ' i = some ⟨r, 0, total⟩) := by
  intro x s' h hp
  cases h
  refine ⟨ρ.put s.n ⟨w.heap.size, 0, total⟩, w.heap.size, { w with heap := w.heap.push (.cells (cs' ++ rest) e) }, rfl, ?_, ?_⟩
  · have hρ : ρ s.n = none := hp.fresh s.n (Nat.le_refl _) (Nat.lt_succ_self _)
    refine Step.make hp (o := .row e cs) rfl rfl ?_ (Nat.le_refl _) ?_ ?_ rfl rfl rfl
    · refine ⟨⟨w.heap.size, 0, total⟩, cs' ++ rest, by simp [Rho.put], ⟨(0, 0), by simp, Unfrozen.zero _⟩, hl, ?_, ?_⟩
      · simpa using ht
      · intro k v hk
        obtain ⟨v', h1, h2⟩ := hc.get k v hk
        refine ⟨v', ?_, h2.ext (Rho.put_ext hρ)⟩
        have hk' : k < cs'.size := by
          rcases Nat.lt_or_ge k cs'.toList.length with h3 | h3
          · simpa using h3
          · rw [List.getElem?_eq_none h3] at h1; cases h1
        simp only [Nat.zero_add]
        rw [Array.getElem?_append_left hk']
        simpa using h1
    · intro b hb
      simp [Array.getElem?_push, Nat.ne_of_lt hb]
    · simp
  · simp [Rho.put]
end
end Go.Proofs.BhE
