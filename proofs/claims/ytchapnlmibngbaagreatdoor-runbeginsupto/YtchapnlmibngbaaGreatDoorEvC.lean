/- The closed run's operations on values: each is the model's own. -/
import Derived.Test.YtchapnlmibngbaaGreatDoorEvB
set_option linter.all false
namespace Go.Proofs.BhE
open Go
noncomputable section

/-! ### 1. What is known of the program -/
structure Ctx where
  fn : Nat → Option Func
  und : TypeId → Option TypeDesc
  inf : TypeId → Option TypeInfo
  ext : Nat → Option (List Value → Option Value)
  frz : Nat → Bool

structure Ctx.Ok (C : Ctx) (P : Program) : Prop where
  fn : ∀ f x, C.fn f = some x → P.funcs[f]? = some x
  name : ∀ f x, C.fn f = some x → (x.name == "runtime.NumGoroutine") = false
  ext : ∀ f o args r, C.ext f = some o → o args = some r → ∀ (ρ : Rho) (args' : Array Value), VRels ρ args args'.toList → ∀ w, ∃ r', (callFunc f args').run P w = .ok (.value r') w ∧ VRel ρ r r'
  und : ∀ t d, C.und t = some d → P.underlying t = some d
  inf : ∀ t i, C.inf t = some i → P.info? t = some i

theorem sim_ofOption {P : Program} {α β : Type} {Pm : Nat → Prop} {ρ : Rho} {s : AS} {w : World} {o : Option α} {c : Sem β} {R : Rho → α → β → Prop}
    (h : ∀ x, o = some x → SimAt P Pm ρ s w (pure x) c R) : SimAt P Pm ρ s w (A.ofOption o) c R := by
  cases o with
  | none => exact sim_fail
  | some x => exact h x rfl

def aund (C : Ctx) (t : TypeId) : A TypeDesc := A.ofOption (C.und t)
def ainf (C : Ctx) (t : TypeId) : A TypeInfo := A.ofOption (C.inf t)

section
variable {P : Program} {C : Ctx} {Pm : Nat → Prop} {ρ : Rho} {s : AS} {w : World}

theorem run_underlying {t : TypeId} {d : TypeDesc} (h : P.underlying t = some d) (w : World) : (underlying t).run P w = .ok d w := by
  unfold underlying
  rw [Sem.run_bind]
  simp only [Go.program, Sem.run]
  rw [h]
  rfl
theorem run_typeInfo {t : TypeId} {i : TypeInfo} (h : P.info? t = some i) (w : World) : (typeInfo t).run P w = .ok i w := by
  unfold typeInfo
  rw [Sem.run_bind]
  simp only [Go.program, Sem.run]
  rw [h]
  rfl
theorem sim_und (hC : C.Ok P) (t : TypeId) : SimAt P Pm ρ s w (aund C t) (underlying t) (fun _ x y => x = y ∧ C.und t = some x) :=
  sim_ofOption fun x e => by
    intro z s' h hp
    cases h
    exact ⟨ρ, x, w, run_underlying (hC.und _ _ e) w, Step.refl hp, rfl, e⟩
theorem sim_inf (hC : C.Ok P) (t : TypeId) : SimAt P Pm ρ s w (ainf C t) (typeInfo t) (fun _ x y => x = y) :=
  sim_ofOption fun x e => by
    intro z s' h hp
    cases h
    exact ⟨ρ, x, w, run_typeInfo (hC.inf _ _ e) w, Step.refl hp, rfl⟩
end

/-- A value that leads nowhere. -/
def closedV : Nat → Value → Bool
  | _, .bool _ => true
  | _, .int _ _ => true
  | _, .string _ => true
  | _, .pointer none => true
  | _, .slice none 0 0 => true
  | _, .map none => true
  | _, .nilFunc => true
  | _, .nilIface => true
  | _, .func (.func _) f c => f.toList.isEmpty && c.toList.isEmpty
  | d + 1, .agg cs => cs.toList.all (closedV d)
  | d + 1, .tuple cs => cs.toList.all (closedV d)
  | _, _ => false

theorem closedV_rel (ρ : Rho) : ∀ (d : Nat) (v : Value), closedV d v = true → VRel ρ v v := by
  intro d
  induction d with
  | zero =>
    intro v h
    unfold closedV at h
    split at h <;> first
      | (rename_i g f c; simp only [Bool.and_eq_true, List.isEmpty_iff] at h; exact .func (by rw [h.1]; exact .nil) (by rw [h.2]; exact .nil))
      | (rename_i d' cs e; cases e; done)
      | cases h; done
      | constructor
  | succ d ih =>
    have all : ∀ l : List Value, l.all (closedV d) = true → VRels ρ l l := by
      intro l
      induction l with
      | nil => intro _; exact .nil
      | cons x xs ihx =>
        intro h
        simp only [List.all_cons, Bool.and_eq_true] at h
        exact .cons (ih x h.1) (ihx h.2)
    intro v h
    unfold closedV at h
    split at h <;> first
      | (rename_i g f c; simp only [Bool.and_eq_true, List.isEmpty_iff] at h; exact .func (by rw [h.1]; exact .nil) (by rw [h.2]; exact .nil))
      | (rename_i d' cs e; cases e; exact .agg (all _ h))
      | (rename_i d' cs e; cases e; exact .tuple (all _ h))
      | cases h; done
      | constructor

def azero (C : Ctx) (t : TypeId) : A Value := do
  let i ← ainf C t
  match i.zero with
  | some v => match closedV 3 v with
    | true => pure v
    | false => A.fail
  | none => A.fail

section
variable {P : Program} {C : Ctx} {Pm : Nat → Prop} {ρ : Rho} {s : AS} {w : World}
theorem sim_zero (hC : C.Ok P) (t : TypeId) : SimAt P Pm ρ s w (azero C t) (zeroValue t) VRel := by
  unfold azero zeroValue
  refine sim_bind (sim_inf hC t) ?_
  rintro ρ1 s1 w1 x y _ rfl
  cases hz : x.zero with
  | none => exact sim_fail
  | some v =>
    dsimp only
    cases hc : closedV 3 v with
    | false => exact sim_fail
    | true => exact sim_pure (closedV_rel _ _ _ hc)
theorem sim_size (hC : C.Ok P) (t : TypeId) : SimAt P Pm ρ s w (do let i ← ainf C t; pure i.size) (sizeOf t) (fun _ x y => x = y) := by
  unfold sizeOf
  refine sim_bind (sim_inf hC t) ?_
  rintro ρ1 s1 w1 x y _ rfl
  exact sim_pure rfl
end
def asize (C : Ctx) (t : TypeId) : A Nat := do let i ← ainf C t; pure i.size
def aisAgg (C : Ctx) (t : TypeId) : A Bool := do
  match ← aund C t with
  | .struct _ | .array _ _ => pure true
  | _ => pure false

section
variable {P : Program} {C : Ctx} {Pm : Nat → Prop} {ρ : Rho} {s : AS} {w : World}
theorem sim_isAgg (hC : C.Ok P) (t : TypeId) : SimAt P Pm ρ s w (aisAgg C t) (isAgg t) (fun _ x y => x = y) := by
  unfold aisAgg isAgg
  refine sim_bind (sim_und hC t) ?_
  rintro ρ1 s1 w1 x y _ ⟨rfl, _⟩
  cases x <;> exact sim_pure rfl
end

/-! ### 2. Cells in a row -/
theorem add_spot (i o n : Nat) : (⟨i, o, none⟩ : Addr).add n = ⟨i, o + n, none⟩ := by
  unfold Addr.add
  split
  · rename_i h; subst h; rfl
  · rfl

theorem cutC_drop (c : Array Value) (off n m : Nat) : (cutC c off n).drop m = cutC c (off + m) (n - m) := by
  unfold cutC
  rw [List.drop_take, List.drop_drop]
theorem cutC_take (c : Array Value) (off n m : Nat) (h : m ≤ n) : (cutC c off n).take m = cutC c off m := by
  unfold cutC
  rw [List.take_take, Nat.min_eq_left h]
section
variable {P : Program} {Pm : Nat → Prop} {ρ : Rho} {s : AS} {w : World}
/-! ### 1. What only reads -/
def ReadAt (P : Program) {α β : Type} (Pm : Nat → Prop) (ρ : Rho) (s : AS) (w : World) (a : A α) (c : Sem β) (R : α → β → Prop) : Prop :=
  ∀ x s', a.run s = some (x, s') → Pre Pm ρ s w s' → s'.h = s.h ∧ s'.n = s.n ∧ ∃ y, c.run P w = .ok y w ∧ R x y

theorem ReadAt.sim {α β : Type} {a : A α} {c : Sem β} {R : α → β → Prop} (h : ReadAt P Pm ρ s w a c R) : SimAt P Pm ρ s w a c (fun ρ' x y => ρ' = ρ ∧ R x y) := by
  intro x s' e hp
  obtain ⟨h1, h2, y, h3, h4⟩ := h x s' e hp
  exact ⟨ρ, y, w, h3, Step.same hp h1 h2, rfl, h4⟩

theorem Pre.same {s1 sf : AS} (h : Pre Pm ρ s w sf) (k : s.le s1) (hh : s1.h = s.h) (hn : s1.n = s.n) : Pre Pm ρ s1 w sf :=
  h.next k (Step.same h hh hn)

theorem run_loadFrom_fz {b off : Nat} {c : Array Value} {e : TypeId} {fr : Nat × Nat} (hb : w.heap[b]? = some (.cells c e fr)) (n : Nat) : ∀ (i : Nat) (acc : Array Value), off + i + n ≤ c.size →
    (loadCellsFrom ⟨b, off, none⟩ i n acc).run P w = .ok (acc ++ (cutC c (off + i) n).toArray) w := by
  induction n with
  | zero =>
    intro i acc _
    simp [loadCellsFrom, cutC]
  | succ n ih =>
    intro i acc h
    have hlt : off + i < c.size := by omega
    unfold loadCellsFrom
    rw [Sem.run_bind, add_spot]
    have h1 : (Go.load (⟨b, off + i, none⟩ : Addr)).run P w = .ok c[off + i] w := by
      simp [Go.load, Sem.run, World.cell?, hb, hlt]
    rw [h1]
    dsimp only
    rw [ih (i + 1) _ (by omega)]
    congr 1
    have h2 : cutC c (off + i) (n + 1) = c[off + i] :: cutC c (off + (i + 1)) n := by
      unfold cutC
      have hd : c.toList.drop (off + i) = c[off + i] :: c.toList.drop (off + i + 1) := by
        rw [List.drop_eq_getElem_cons (by simpa using hlt)]
        simp
      rw [hd, List.take_succ_cons]
      rfl
    rw [h2]
    simp
theorem cutC_length (c : Array Value) (off n : Nat) : (cutC c off n).length = min n (c.size - off) := by simp [cutC]
theorem run_storeCells_block (P : Program) (l : List Value) : ∀ (i : Nat) (w : World) (b off : Nat) (c : Array Value) (e : TypeId) (fr : Nat × Nat), w.heap[b]? = some (.cells c e fr) → Unfrozen c fr → off + i + l.length ≤ c.size →
    (∀ v ∈ l, plainCell v = true) → ∃ w'' c'', (storeCells ⟨b, off, none⟩ l i).run P w = .ok () w'' ∧ w''.heap[b]? = some (.cells c'' e fr) ∧ c''.size = c.size ∧
      (∀ k, c''[k]? = if off + i ≤ k ∧ k < off + i + l.length then l[k - (off + i)]? else c[k]?) ∧ (∀ b', b' ≠ b → w''.heap[b']? = w.heap[b']?) ∧ w''.heap.size = w.heap.size ∧
      w''.os = w.os ∧ w''.tape = w.tape ∧ w''.output = w.output := by
  induction l with
  | nil =>
    intro i w b off c e fr hb _ hl _
    refine ⟨w, c, rfl, hb, rfl, ?_, fun _ _ => rfl, rfl, rfl, rfl, rfl⟩
    intro k
    rw [if_neg (by rintro ⟨q1, q2⟩; simp only [List.length_nil] at q2; omega)]
  | cons v l ih =>
    intro i w b off c e fr hb hfr hl hp
    simp only [List.length_cons] at hl
    have hsz : off + i < c.size := by omega
    have ha : (⟨b, off, none⟩ : Addr).add i = ⟨b, off + i, none⟩ := add_spot _ _ _
    have h1 : (Go.store ((⟨b, off, none⟩ : Addr).add i) v).run P w = .ok () (w.setCell ⟨b, off + i, none⟩ v) := by
      rw [ha]
      exact run_store_cell (hp v List.mem_cons_self) (u := c[off + i]) (by simp [World.cell?, hb, hsz]) (by obtain ⟨lo, hi⟩ := fr; simp only [World.frozen?, hb]; exact hfr.not hsz)
    have hb1 : (w.setCell ⟨b, off + i, none⟩ v).heap[b]? = some (.cells (c.setIfInBounds (off + i) v) e fr) := by
      simp [World.setCell, Array.getElem?_modify, hb]
    obtain ⟨w'', c'', h2, h3, h4, h5, h6, h7, h8, h9, h10⟩ := ih (i + 1) _ b off _ e fr hb1 (by unfold Unfrozen at hfr ⊢; simpa using hfr) (by simp; omega) (fun u hu => hp u (List.mem_cons_of_mem _ hu))
    refine ⟨w'', c'', ?_, h3, by simpa using h4, ?_, ?_, ?_, h8, h9, h10⟩
    · unfold storeCells
      rw [Sem.run_bind, h1]
      exact h2
    · intro k
      rw [h5 k]
      by_cases hk : k = off + i
      · subst hk
        rw [if_neg (by omega), if_pos (by simp)]
        simp [hsz]
      · by_cases hk2 : off + (i + 1) ≤ k ∧ k < off + (i + 1) + l.length
        · rw [if_pos hk2, if_pos (by simp; omega)]
          have : k - (off + i) = (k - (off + (i + 1))) + 1 := by omega
          rw [this]
          simp
        · rw [if_neg hk2, if_neg (by simp; omega), Array.getElem?_setIfInBounds_ne (by omega)]
    · intro b' hb'
      rw [h6 b' hb']
      simp [World.setCell, Array.getElem?_modify, Ne.symm hb']
    · rw [h7]; simp [World.setCell]

theorem VRels.plain {l l' : List Value} (h : VRels ρ l l') (hp : l.all plainCell = true) : ∀ v ∈ l', plainCell v = true := by
  induction l generalizing l' with
  | nil => cases h; simp
  | cons a l ih =>
    cases h with
    | cons hv ht =>
      simp only [List.all_cons, Bool.and_eq_true] at hp
      intro v hm
      rcases List.mem_cons.1 hm with rfl | hm
      · exact plainCell_rel hv hp.1
      · exact ih ht hp.2 v hm


/-- So many cells, at once. -/
def aloadN (a : Addr) (n : Nat) : A (List Value) :=
  ⟨fun s => match n with
    | 0 => some ([], s)
    | m + 1 => match a.spot with
      | some _ => none
      | none => match s.h.get a.block with
        | some (.row _ cs) => forceL ((cs.drop a.off).take (m + 1)) fun l => match Nat.beq l.length (m + 1) with
          | true => some (l, s.touchR a.block)
          | false => none
        | _ => none,
   fun s x s' h => by
    revert h
    split
    · intro h; cases h; exact AS.le.refl _
    · split
      · intro h; cases h
      · split
        · rw [forceL_eq]
          split
          · intro h; cases h; exact AS.touchR_le _ _
          · intro h; cases h
        · intro h; cases h⟩
theorem aloadN_spec {a : Addr} {n : Nat} {s s' : AS} {x : List Value} {e : TypeId} {cs : List Value} (h : (aloadN a n).run s = some (x, s')) (hg : s.h.get a.block = some (.row e cs)) : x = (cs.drop a.off).take n := by
  unfold aloadN at h
  dsimp only at h
  split at h
  · cases h; simp
  · split at h
    · cases h
    · rw [hg] at h
      dsimp only at h
      rw [forceL_eq] at h
      split at h
      · cases h; rfl
      · cases h
theorem row_cut {cs : List Value} {p : Place} {c : Array Value} (ht : cs.length ≤ p.total) (htc : p.base + p.total ≤ c.size)
    (hc : ∀ k v, cs[k]? = some v → ∃ v', c[p.base + k]? = some v' ∧ VRel ρ v v') : VRels ρ cs (cutC c p.base cs.length) := by
  refine VRels.of_get (by rw [cutC_length]; omega) ?_
  intro k v v' hk hk'
  obtain ⟨u, hu, hr⟩ := hc k v hk
  have hlt : k < cs.length := (List.getElem?_eq_some_iff.1 hk).1
  unfold cutC at hk'
  rw [List.getElem?_take_of_lt hlt, List.getElem?_drop] at hk'
  have : c[p.base + k]? = some v' := by simpa using hk'
  rw [this] at hu
  cases hu
  exact hr
theorem read_loadN {a a' : Addr} (n : Nat) (ha : AddrRel ρ a a') : ReadAt P Pm ρ s w (aloadN a n) (loadCellsFrom a' 0 n #[]) (fun x y => VRels ρ x y.toList ∧ x.length = n) := by
  intro x s' h hp
  obtain ⟨p, h1, h2, rfl⟩ := ha
  have h0 := h
  unfold aloadN at h
  dsimp only at h
  split at h
  · cases h; exact ⟨rfl, rfl, #[], rfl, .nil, rfl⟩
  rename_i m
  rw [h2] at h
  dsimp only at h
  split at h
  case h_2 => cases h
  rename_i e cs hg
  rw [forceL_eq] at h
  split at h
  case h_2 => cases h
  rename_i hl
  cases h
  have hl := Nat.eq_of_beq_eq_true hl
  have hPm : Pm a.block := by
    rcases AS.touchR_in a.block s with h3 | h3
    · refine hp.above _ h3 ?_
      rw [(AS.touchR_h a.block s).2]
      exact hp.lt hg
    · exact hp.rd _ h3
  obtain ⟨p', c, hp1, ⟨fr, hb, hfr⟩, ht, htc, hc⟩ := hp.rep.obj _ _ hPm hg
  rw [h1] at hp1
  cases hp1
  have h4 := ((row_cut ht htc hc).drop a.off).take (m + 1)
  have hle : a.off + (m + 1) ≤ cs.length := by rw [List.length_take, List.length_drop] at hl; omega
  rw [cutC_drop, cutC_take _ _ _ _ (by omega)] at h4
  refine ⟨(AS.touchR_h _ _).1, (AS.touchR_h _ _).2, (cutC c (p.base + a.off) (m + 1)).toArray, ?_, h4, hl⟩
  rw [run_loadFrom_fz hb (m + 1) 0 #[] (by omega)]
  simp
theorem sim_loadN {a a' : Addr} (n : Nat) (ha : AddrRel ρ a a') : SimAt P Pm ρ s w (aloadN a n) (loadCells a' n) (fun ρ x y => VRels ρ x y.toList) := by
  intro x s' h hp
  obtain ⟨h1, h2, y, h3, h4, _⟩ := read_loadN (P := P) n ha x s' h hp
  exact ⟨ρ, y, w, h3, Step.same hp h1 h2, h4⟩

/-- Cells, at once. -/
def astoreN (a : Addr) (l : List Value) : A Unit :=
  ⟨fun s => match l with
    | [] => some ((), s)
    | v :: rest => match (v :: rest).all plainCell with
      | false => none
      | true => match a.spot with
        | some _ => none
        | none => match s.h.get a.block with
          | some (.row e cs) => match Nat.ble (a.off + (v :: rest).length) cs.length with
            | true => forceL (cs.take a.off ++ ((v :: rest) ++ cs.drop (a.off + (v :: rest).length))) fun l => some ((), (s.touchW a.block).put a.block (.row e l))
            | false => none
          | _ => none,
   fun s x s' h => by
    revert h
    split
    · intro h; cases h; exact AS.le.refl _
    · split
      · intro h; cases h
      · split
        · intro h; cases h
        · split
          · rename_i hg
            split
            · rw [forceL_eq]; intro h; cases h; exact AS.write_le _ _ _ hg
            · intro h; cases h
          · intro h; cases h⟩
theorem sim_storeN {a a' : Addr} {l l' : List Value} (ha : AddrRel ρ a a') (hl : VRels ρ l l') : SimAt P Pm ρ s w (astoreN a l) (storeCells a' l') (fun _ _ _ => True) := by
  intro x s' h hp
  obtain ⟨p, h1, h2, rfl⟩ := ha
  unfold astoreN at h
  dsimp only at h
  split at h
  · cases hl
    cases h
    exact ⟨ρ, (), w, rfl, Step.refl hp, trivial⟩
  rename_i v rest
  generalize hL : v :: rest = L at h hl
  clear hL v rest
  split at h
  · cases h
  rename_i hpl
  rw [h2] at h
  dsimp only at h
  split at h
  case h_2 => cases h
  rename_i e cs hg
  split at h
  case h_2 => cases h
  rename_i hle
  rw [forceL_eq] at h
  cases h
  have hle := Nat.le_of_ble_eq_true hle
  have hPm : Pm a.block := by
    rcases AS.touchW_in a.block s with h0 | h0
    · refine hp.above _ h0 ?_
      show a.block < (s.touchW a.block).n
      rw [(AS.touchW_h a.block s).2]
      exact hp.lt hg
    · exact hp.wr _ h0
  obtain ⟨p', c, hp1, ⟨fr, hb, hfr⟩, ht, htc, hc⟩ := hp.rep.obj _ _ hPm hg
  rw [h1] at hp1
  cases hp1
  have hlen := hl.length
  obtain ⟨w'', c'', r1, r2, r3, r4, r5, r6, r7, r8, r9⟩ := run_storeCells_block P l' 0 w p.block (p.base + a.off) c e fr hb hfr (by omega) (hl.plain hpl)
  refine ⟨ρ, (), w'', r1, ?_, trivial⟩
  refine Step.write hp hPm ⟨_, hg, trivial⟩ h1 (s' := (s.touchW a.block).put a.block (.row e (cs.take a.off ++ (L ++ cs.drop (a.off + L.length))))) (o := .row e (cs.take a.off ++ (L ++ cs.drop (a.off + L.length)))) ?_ ?_ ?_ r5 r6 r7 r8 r9
  · show (s.touchW a.block).h.set _ _ = _
    rw [(AS.touchW_h a.block s).1]
  · show (s.touchW a.block).n = _
    exact (AS.touchW_h a.block s).2
  · refine ⟨p, c'', h1, ⟨fr, r2, by unfold Unfrozen at hfr ⊢; rw [r3]; exact hfr⟩, by simp; omega, by omega, ?_⟩
    intro k u hk
    rw [r4]
    simp only [Nat.add_zero]
    rcases Nat.lt_or_ge k a.off with k1 | k1
    · rw [if_neg (by omega)]
      rw [List.getElem?_append_left (by simp; omega), List.getElem?_take_of_lt k1] at hk
      exact hc k u hk
    · rw [List.getElem?_append_right (by simp; omega)] at hk
      have e1 : (cs.take a.off).length = a.off := by simp; omega
      rw [e1] at hk
      rcases Nat.lt_or_ge (k - a.off) L.length with k2 | k2
      · rw [List.getElem?_append_left k2] at hk
        rw [if_pos (by omega)]
        obtain ⟨u', q1, q2⟩ := hl.get _ _ hk
        refine ⟨u', ?_, q2⟩
        rw [← q1]
        congr 1
        omega
      · rw [List.getElem?_append_right k2, List.getElem?_drop] at hk
        rw [if_neg (by omega)]
        have := hc _ u hk
        rwa [show a.off + L.length + (k - a.off - L.length) = k by omega] at this
end

def aloadVar (C : Ctx) (t : TypeId) (a : Addr) : A Value := do
  match ← aisAgg C t with
  | true => do
    let n ← asize C t
    let cs ← aloadN a n
    pure (.agg cs.toArray)
  | false => aload a
def astoreVar (C : Ctx) (t : TypeId) (a : Addr) (v : Value) : A Unit := do
  let n ← asize C t
  match Nat.beq v.cells.toList.length n with
  | true => astoreN a v.cells.toList
  | false => A.fail

section
variable {P : Program} {C : Ctx} {Pm : Nat → Prop} {ρ : Rho} {s : AS} {w : World}
theorem VRel.cells {v v' : Value} (h : VRel ρ v v') : VRels ρ v.cells.toList v'.cells.toList := by
  cases h with
  | agg h => exact h
  | bool b => exact .cons (.bool b) .nil
  | int k n => exact .cons (.int k n) .nil
  | str x => exact .cons (.str x) .nil
  | pnil => exact .cons .pnil .nil
  | ptr h => exact .cons (.ptr h) .nil
  | snil => exact .cons .snil .nil
  | slx h => exact .cons (.slx h) .nil
  | slu h h2 h3 => exact .cons (.slu h h2 h3) .nil
  | slz h => exact .cons (.slz h) .nil
  | mnil => exact .cons .mnil .nil
  | map h => exact .cons (.map h) .nil
  | func h h2 => exact .cons (.func h h2) .nil
  | list h h2 h3 h4 h5 h6 => exact .cons (.list h h2 h3 h4 h5 h6) .nil
  | listz h h2 h3 => exact .cons (.listz h h2 h3) .nil
  | fptr h h2 => exact .cons (.fptr h h2) .nil
  | nfunc => exact .cons .nfunc .nil
  | iface h => exact .cons (.iface h) .nil
  | niface => exact .cons .niface .nil
  | tuple h => exact .cons (.tuple h) .nil
theorem sim_loadVar (hC : C.Ok P) (t : TypeId) {a a' : Addr} (ha : AddrRel ρ a a') : SimAt P Pm ρ s w (aloadVar C t a) (loadVar t a') VRel := by
  unfold aloadVar loadVar
  refine sim_bind (sim_isAgg hC t) ?_
  rintro ρ1 s1 w1 x y e1 rfl
  cases x with
  | true =>
    refine sim_bind (sim_size hC t) ?_
    rintro ρ2 s2 w2 n m e2 rfl
    refine sim_bind (sim_loadN n ((ha.ext e1).ext e2)) ?_
    intro ρ3 s3 w3 l l' e3 hl
    exact sim_pure (.agg (by simpa using hl))
  | false => exact sim_load (ha.ext e1) .plain
theorem sim_storeVar (hC : C.Ok P) (t : TypeId) {a a' : Addr} {v v' : Value} (ha : AddrRel ρ a a') (hv : VRel ρ v v') :
    SimAt P Pm ρ s w (astoreVar C t a v) (storeVar t a' v') (fun _ _ _ => True) := by
  unfold astoreVar storeVar
  refine sim_bind (sim_size hC t) ?_
  rintro ρ1 s1 w1 n m e1 rfl
  cases hb : Nat.beq v.cells.toList.length n with
  | false => exact sim_fail
  | true =>
    have hn : v.cells.toList.length = n := Nat.eq_of_beq_eq_true hb
    have hl := hv.cells.length
    have : ¬ v'.cells.size ≠ n := by simp at hl hn; omega
    rw [if_neg this]
    exact sim_storeN (ha.ext e1) ((hv.ext e1).cells)
end

/-! ### 3. New variables -/
def anewRow (e : TypeId) (cs : List Value) : A Addr := do
  let i ← anew (.row e cs)
  pure ⟨i, 0, none⟩
section
variable {P : Program} {C : Ctx} {Pm : Nat → Prop} {ρ : Rho} {s : AS} {w : World}
theorem sim_newRowA {e : TypeId} {cs : List Value} {cs' : Array Value} (hc : VRels ρ cs cs'.toList) : SimAt P Pm ρ s w (anewRow e cs) (newRow e cs') AddrRel := by
  unfold anewRow newRow
  refine sim_bind (sim_newRow hc) ?_
  intro ρ1 s1 w1 i r e1 h
  exact sim_pure ⟨_, h, rfl, by simp⟩
end

/-! ### 4. Parts of structs and arrays -/
def apart (C : Ctx) (t : TypeId) (cs : List Value) (off : Nat) : A Value := do
  match ← aisAgg C t with
  | true => do
    let n ← asize C t
    pure (.agg ((cs.drop off).take n).toArray)
  | false => A.ofOption cs[off]?
def afill (place : Nat → Option (Nat × Nat)) (cells : List Value) : List (Nat × Value) → Option (List Value)
  | [] => some cells
  | (i, v) :: rest =>
    match place i with
    | none => none
    | some (off, size) =>
      match Nat.beq v.cells.toList.length size && Nat.ble (off + size) cells.length with
      | true => afill place (cells.take off ++ (v.cells.toList ++ cells.drop (off + size))) rest
      | false => none

theorem foldl_set (vs : List Value) : ∀ (j : Nat) (cs : Array Value) (off : Nat), off + j + vs.length ≤ cs.size →
    ((vs.zipIdx j).foldl (fun cs (x : Value × Nat) => cs.setIfInBounds (off + x.2) x.1) cs).toList = cs.toList.take (off + j) ++ (vs ++ cs.toList.drop (off + j + vs.length)) := by
  induction vs with
  | nil => intro j cs off h; simp
  | cons v vs ih =>
    intro j cs off h
    simp only [List.zipIdx_cons, List.foldl_cons]
    simp only [List.length_cons] at h
    rw [ih (j + 1) _ off (by simp; omega)]
    simp only [Array.toList_setIfInBounds, List.length_cons]
    have hlt : off + j < cs.toList.length := by simp; omega
    rw [List.take_set, List.drop_set_of_lt (by omega)]
    have e1 : off + (j + 1) = off + j + 1 := by omega
    rw [e1, List.take_succ_eq_append_getElem hlt, List.set_append_right _ _ (by simp; omega)]
    have e2 : off + j + 1 + vs.length = off + j + (vs.length + 1) := by omega
    rw [e2]
    simp
    have : off + j - min (off + j) cs.size = 0 := by omega
    rw [this]
    rfl

theorem VRels.splice {ρ : Rho} {a a' b b' : List Value} (h : VRels ρ a a') (k : VRels ρ b b') (n m : Nat) :
    VRels ρ (a.take n ++ (b ++ a.drop m)) (a'.take n ++ (b' ++ a'.drop m)) := (h.take n).append (k.append (h.drop m))

inductive PRels (ρ : Rho) : List (Nat × Value) → List (Nat × Value) → Prop
  | nil : PRels ρ [] []
  | cons {i : Nat} {v v' : Value} {l l' : List (Nat × Value)} : VRel ρ v v' → PRels ρ l l' → PRels ρ ((i, v) :: l) ((i, v') :: l')

theorem afill_rel {ρ : Rho} {place place' : Nat → Option (Nat × Nat)} (hp : ∀ i x, place i = some x → place' i = some x) : ∀ (l : List (Nat × Value)) (l' : List (Nat × Value)) (cs : List Value) (cs' : Array Value) (r : List Value),
    PRels ρ l l' → VRels ρ cs cs'.toList → afill place cs l = some r → ∃ r', Instr.fill place' cs' l' = some r' ∧ VRels ρ r r'.toList := by
  intro l
  induction l with
  | nil => intro l' cs cs' r h hc e; cases h; cases e; exact ⟨cs', rfl, hc⟩
  | cons x rest ih =>
    intro l' cs cs' r h hc e
    cases h with
    | @cons i v v' _ l' hv ht =>
      simp only [afill] at e
      split at e
      · cases e
      rename_i off size hpl
      split at e
      · rename_i hb
        simp only [Bool.and_eq_true] at hb
        have h1 : v.cells.toList.length = size := Nat.eq_of_beq_eq_true hb.1
        have h2 : off + size ≤ cs.length := Nat.le_of_ble_eq_true hb.2
        have hl := hv.cells.length
        have hcl := hc.length
        simp only [Array.length_toList] at hl hcl h1
        have hcond : ¬ (decide (v'.cells.size ≠ size) || decide (off + v'.cells.size > cs'.size)) = true := by
          simp only [Bool.or_eq_true, decide_eq_true_eq, not_or]
          omega
        have hnew : VRels ρ (cs.take off ++ (v.cells.toList ++ cs.drop (off + size))) ((v'.cells.zipIdx).foldl (fun cs (c, j) => cs.setIfInBounds (off + j) c) cs').toList := by
          have := foldl_set v'.cells.toList 0 cs' off (by simp; omega)
          have e3 : (v'.cells.zipIdx).foldl (fun (cs : Array Value) (x : Value × Nat) => cs.setIfInBounds (off + x.2) x.1) cs' = ((v'.cells.toList.zipIdx 0).foldl (fun cs (x : Value × Nat) => cs.setIfInBounds (off + x.2) x.1) cs') := by
            rw [← Array.foldl_toList, Array.toList_zipIdx]
          rw [show ((v'.cells.zipIdx).foldl (fun cs (c, j) => cs.setIfInBounds (off + j) c) cs') = (v'.cells.zipIdx).foldl (fun (cs : Array Value) (x : Value × Nat) => cs.setIfInBounds (off + x.2) x.1) cs' from rfl, e3, this]
          simp only [Nat.add_zero, Array.length_toList]
          rw [show v'.cells.size = size by omega]
          exact hc.splice hv.cells off (off + size)
        obtain ⟨r', hr, hrel⟩ := ih l' _ ((v'.cells.zipIdx).foldl (fun cs (c, j) => cs.setIfInBounds (off + j) c) cs') r ht hnew e
        refine ⟨r', ?_, hrel⟩
        simp only [Instr.fill, hp _ _ hpl]
        rw [if_neg hcond]
        exact hr
      · cases e
end
end Go.Proofs.BhE
