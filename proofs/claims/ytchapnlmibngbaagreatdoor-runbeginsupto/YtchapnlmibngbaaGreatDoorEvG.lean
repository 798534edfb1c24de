/- The closed run's operations that make memory: structs, slices, append, copy. -/
import Derived.Test.YtchapnlmibngbaaGreatDoorEvF
set_option linter.all false
namespace Go.Proofs.BhE
open Go
noncomputable section

section
variable {P : Program} {C : Ctx} {Pm : Nat → Prop} {ρ : Rho} {s : AS} {w : World}

/-! ### 1. An object that is given up -/
def akill (e i : Nat) : A Unit :=
  ⟨fun s =>
    match s.h.get i with
    | some (.row el _) => match Nat.beq el e with
      | true => some ((), (s.touchW i).put i .dead)
      | false => none
    | _ => none,
   fun s x s' h => by
    revert h
    split
    · rename_i hg
      split
      · intro h; cases h; exact AS.write_le _ _ _ hg
      · intro h; cases h
    · intro h; cases h⟩

theorem AS.not_live_dead {s : AS} {i : Nat} (h : s.h.get i = some .dead) : ¬ s.live i := by
  rintro ⟨o, h1, h2⟩
  rw [h] at h1
  cases h1
  exact h2

theorem Step.kill {i : Nat} {s' : AS} {sf : AS} (hp : Pre Pm ρ s w sf) (hs : s'.h = s.h.set i .dead) (hn : s'.n = s.n) (hi : i < s.n) : Step Pm ρ s w ρ s' w := by
  have live' : ∀ j, s'.live j → s.live j := by
    intro j hj
    obtain ⟨o', h1, h2⟩ := hj
    rw [hs, Tr.get_set] at h1
    split at h1
    · cases h1; exact h2.elim
    · exact ⟨o', h1, h2⟩
  constructor
  · constructor
    · intro j o' hj hjo
      rw [hs, Tr.get_set] at hjo
      split at hjo
      · cases hjo; trivial
      · exact hp.rep.obj j o' hj hjo
    · intro j k q r hj hk lj lk
      exact hp.rep.inj j k q r hj hk (live' j lj) (live' k lk)
    · exact hp.rep.fz
    · intro j q b o' hj lj
      exact hp.rep.off j q b o' hj (live' j lj)
  · exact Rho.ext.refl ρ
  · exact fun _ h _ => h
  · intro j hj
    rw [hs, Tr.get_set, if_neg (by omega)]
    exact hp.new j (hn ▸ hj)
  · exact fun j _ l => live' j l
  · exact Nat.le_refl _
  · exact fun _ _ _ => rfl
  · intro j q hj lj hq
    exact .inr ⟨j, q, hj, live' j lj, hq, rfl⟩
  · exact fun _ _ h => .inl h
  · rfl
  · rfl
  · rfl

/-- Given up, and another one in its block. -/
theorem Step.regrow {i : Nat} {s' : AS} {w' : World} {e : TypeId} {cs : List Value} {p p' : Place} (hp : Pre Pm ρ s w s') (hi : Pm i) (hl : s.live i) (hρ : ρ i = some p)
    (hs : s'.h = (s.h.set i .dead).set s.n (.row e cs)) (hn : s'.n = s.n + 1) (ho : ObjOk (Rho.put ρ s.n p') w' s.n (.row e cs)) (hb : p'.block = p.block)
    (hother : ∀ b, b ≠ p.block → w'.heap[b]? = w.heap[b]?) (hsize : w'.heap.size = w.heap.size) (hos : w'.os = w.os) (ht : w'.tape = w.tape) (hout : w'.output = w.output) :
    Step Pm ρ s w (Rho.put ρ s.n p') s' w' := by
  have hρn : ρ s.n = none := hp.fresh s.n (Nat.le_refl _) (by omega)
  have hilt : i < s.n := by obtain ⟨o, h1, _⟩ := hl; exact hp.lt h1
  have live' : ∀ j, s'.live j → j ≠ s.n → s.live j ∧ j ≠ i := by
    intro j hj hne
    obtain ⟨o', h1, h2⟩ := hj
    rw [hs, Tr.get_set, if_neg hne, Tr.get_set] at h1
    split at h1
    · cases h1; exact h2.elim
    · exact ⟨⟨o', h1, h2⟩, by assumption⟩
  have oldρ : ∀ j q, (Rho.put ρ s.n p') j = some q → j ≠ s.n → ρ j = some q := by
    intro j q hj hne
    unfold Rho.put at hj
    dsimp only at hj
    rwa [if_neg hne] at hj
  have newρ : ∀ q, (Rho.put ρ s.n p') s.n = some q → q = p' := by
    intro q hj
    unfold Rho.put at hj
    dsimp only at hj
    rw [if_pos rfl] at hj
    cases hj; rfl
  constructor
  · constructor
    · intro j o' hj hg
      by_cases e1 : j = s.n
      · subst e1
        rw [hs, Tr.get_set_same] at hg
        cases hg; exact ho
      · rw [hs, Tr.get_set_other _ _ e1, Tr.get_set] at hg
        split at hg
        · cases hg; trivial
        · rename_i hne
          refine ((hp.rep.obj j o' hj hg).other fun q hal hq => hother _ fun e2 => hne ?_).ext (Rho.put_ext hρn)
          exact hp.rep.inj j i q p hj hi ⟨o', hg, hal⟩ hl hq hρ e2
    · intro j k q r hj hk lj lk hq hr e2
      by_cases ej : j = s.n <;> by_cases ek : k = s.n
      · omega
      · subst ej
        obtain ⟨lk', hki⟩ := live' k lk ek
        rw [newρ q hq, hb] at e2
        exact absurd (hp.rep.inj k i r p hk hi lk' hl (oldρ k r hr ek) hρ e2.symm) hki
      · subst ek
        obtain ⟨lj', hji⟩ := live' j lj ej
        rw [newρ r hr, hb] at e2
        exact absurd (hp.rep.inj j i q p hj hi lj' hl (oldρ j q hq ej) hρ e2) hji
      · exact hp.rep.inj j k q r hj hk (live' j lj ej).1 (live' k lk ek).1 (oldρ j q hq ej) (oldρ k r hr ek) e2
    · intro b o' hb'
      rw [hother b fun e2 => hp.rep.off i p b o' hi hl hρ hb' e2.symm]
      exact hp.rep.fz b o' hb'
    · intro j q b o' hj lj hq hb'
      by_cases ej : j = s.n
      · subst ej
        rw [newρ q hq, hb]
        exact hp.rep.off i p b o' hi hl hρ hb'
      · exact hp.rep.off j q b o' hj (live' j lj ej).1 (oldρ j q hq ej) hb'
  · exact Rho.put_ext hρn
  · intro j hj hc
    unfold Rho.put
    dsimp only
    rw [if_neg (by omega)]
    exact hj
  · intro j hj
    rw [hs, Tr.get_set_other _ _ (by omega), Tr.get_set_other _ _ (by omega)]
    exact hp.new j (by omega)
  · intro j hj l
    exact (live' j l (by omega)).1
  · omega
  · intro b hb' hne
    exact hother b fun e2 => hne i p hi hl hρ e2.symm
  · intro j q hj lj hq
    by_cases e1 : j = s.n
    · subst e1
      refine .inr ⟨i, p, hi, hl, hρ, ?_⟩
      rw [newρ q hq, hb]
    · exact .inr ⟨j, q, hj, (live' j lj e1).1, oldρ j q hq e1, rfl⟩
  · exact fun _ _ h => .inl h
  · exact hos
  · exact ht
  · exact hout

/-! ### 2. New variables, structs, literals -/
def anewVar (e : TypeId) (v : Value) : A Value := do
  let a ← anewRow e v.cells.toList
  pure (.pointer (some a))
theorem sim_newVar {e : TypeId} {v v' : Value} (hv : VRel ρ v v') : SimAt P Pm ρ s w (anewVar e v) (do pure (.pointer (some (← newVar e v')))) VRel := by
  unfold anewVar newVar
  refine sim_bind (sim_newRowA hv.cells) ?_
  intro ρ1 s1 w1 a a' _ h
  exact sim_pure h.val
def aalloc (C : Ctx) (e : TypeId) : A Value := do
  let z ← azero C e
  anewVar e z
theorem sim_alloc (hC : C.Ok P) (e : TypeId) : SimAt P Pm ρ s w (aalloc C e) (Instr.alloc e true (.tuple #[])) VRel := by
  unfold aalloc Instr.alloc
  refine sim_bind (sim_zero hC e) ?_
  intro ρ1 s1 w1 z z' _ hz
  exact sim_newVar hz
theorem sim_box {e : TypeId} {v v' : Value} (hv : VRel ρ v v') : SimAt P Pm ρ s w (anewVar e v) (Instr.box e v') VRel := sim_newVar hv

def azeroO (C : Ctx) (t : TypeId) : Option Value :=
  match C.inf t with
  | none => none
  | some i => match i.zero with
    | none => none
    | some v => match closedV 3 v with
      | true => some v
      | false => none
theorem azeroO_spec {t : TypeId} {v : Value} (h : azeroO C t = some v) : ∃ i, C.inf t = some i ∧ i.zero = some v ∧ ∀ ρ, VRel ρ v v := by
  unfold azeroO at h
  split at h
  · cases h
  rename_i i hi
  split at h
  · cases h
  rename_i z hz
  split at h
  · rename_i hc; cases h; exact ⟨i, hi, hz, fun ρ => closedV_rel ρ _ _ hc⟩
  · cases h

def aplacesO (C : Ctx) : List Field → Option (List (Nat × Nat))
  | [] => some []
  | f :: fs =>
    match C.inf f.type with
    | none => none
    | some i => match aplacesO C fs with
      | none => none
      | some l => some ((f.offset, i.size) :: l)
theorem aplacesO_spec (hC : C.Ok P) : ∀ (fs : List Field) (l : List (Nat × Nat)), aplacesO C fs = some l → fs.mapM (fun f => (P.info? f.type).map fun i => (f.offset, i.size)) = some l
  | [], l, h => by cases h; rfl
  | f :: fs, l, h => by
    unfold aplacesO at h
    split at h
    · cases h
    rename_i i hi
    split at h
    · cases h
    rename_i l' hl'
    cases h
    simp [hC.inf _ _ hi, aplacesO_spec hC fs l' hl']

def abuild (C : Ctx) (t : TypeId) (parts : List (Nat × Value)) : Option Value :=
  match azeroO C t, C.und t with
  | some z, some (.struct fs) =>
    match aplacesO C fs.toList with
    | none => none
    | some pl => (afill (fun i => pl[i]?) z.cells.toList parts).map fun cs => .agg cs.toArray
  | some z, some (.array _ e) =>
    match C.inf e with
    | none => none
    | some ie => (afill (fun i => some (i * ie.size, ie.size)) z.cells.toList parts).map fun cs => .agg cs.toArray
  | _, _ => none
theorem abuild_run (hC : C.Ok P) {t : TypeId} {parts : List (Nat × Value)} {parts' : Array (Nat × Value)} {r : Value} (h : abuild C t parts = some r) (hp : PRels ρ parts parts'.toList) (w : World) :
    ∃ r', (Instr.build t parts').run P w = .ok r' w ∧ VRel ρ r r' := by
  unfold abuild at h
  split at h
  · rename_i z fs hz ht
    obtain ⟨it, hit, hiz, hzr⟩ := azeroO_spec hz
    split at h
    · cases h
    rename_i pl hpl
    simp only [Option.map_eq_some_iff] at h
    obtain ⟨cs, hcs, rfl⟩ := h
    obtain ⟨cs', hf, hrel⟩ := afill_rel (place' := fun i => pl.toArray[i]?) (fun i x hx => by simpa using hx) parts parts'.toList z.cells.toList z.cells cs hp (hzr ρ).cells hcs
    refine ⟨.agg cs', run_build w t parts' cs' ?_, .agg hrel⟩
    unfold Program.built
    rw [hC.inf _ _ hit, hC.und _ _ ht]
    dsimp only
    rw [hiz, aplacesO_spec hC _ _ hpl]
    exact hf
  · rename_i z n e hz ht
    obtain ⟨it, hit, hiz, hzr⟩ := azeroO_spec hz
    split at h
    · cases h
    rename_i ie hie
    simp only [Option.map_eq_some_iff] at h
    obtain ⟨cs, hcs, rfl⟩ := h
    obtain ⟨cs', hf, hrel⟩ := afill_rel (place' := fun i => some (i * ie.size, ie.size)) (fun i x hx => hx) parts parts'.toList z.cells.toList z.cells cs hp (hzr ρ).cells hcs
    refine ⟨.agg cs', run_build w t parts' cs' ?_, .agg hrel⟩
    unfold Program.built
    rw [hC.inf _ _ hit, hC.und _ _ ht]
    dsimp only
    rw [hiz, hC.inf _ _ hie]
    exact hf
  · cases h

theorem sim_congr {α β : Type} {a : A α} {c c' : Sem β} {R : Rho → α → β → Prop} (h : c.run P w = c'.run P w) (k : SimAt P Pm ρ s w a c' R) : SimAt P Pm ρ s w a c R := by
  intro x s' e hp
  obtain ⟨ρ', y, w', e', r⟩ := k x s' e hp
  exact ⟨ρ', y, w', h.trans e', r⟩
def repList : Nat → List Value → List Value
  | 0, _ => []
  | n + 1, z => z ++ repList n z
theorem repList_length (z : List Value) : ∀ n, (repList n z).length = n * z.length
  | 0 => by simp [repList]
  | n + 1 => by simp [repList, repList_length z n, Nat.succ_mul, Nat.add_comm]
theorem repList_get (z : List Value) : ∀ (n k : Nat), k < n * z.length → (repList n z)[k]? = z[k % z.length]?
  | 0, k, h => by simp at h
  | n + 1, k, h => by
    unfold repList
    rcases Nat.lt_or_ge k z.length with h1 | h1
    · rw [List.getElem?_append_left h1, Nat.mod_eq_of_lt h1]
    · rw [List.getElem?_append_right h1, repList_get z n (k - z.length) (by rw [Nat.succ_mul] at h; omega)]
      congr 1
      conv => rhs; rw [show k = (k - z.length) + z.length by omega]
      rw [Nat.add_mod_right]
theorem repList_rel {z : List Value} (hz : VRels ρ z z) (n m : Nat) (hm : m = n * z.length) : VRels ρ (repList n z) ((Array.range m).map (fun i => z.toArray[i % z.toArray.size]!)).toList := by
  subst hm
  refine VRels.of_get (by simp [repList_length]) ?_
  intro k v v' h1 h2
  have hk : k < n * z.length := by
    rcases Nat.lt_or_ge k (repList n z).length with h3 | h3
    · rwa [repList_length] at h3
    · rw [List.getElem?_eq_none h3] at h1; cases h1
  rw [repList_get z n k hk] at h1
  have hz0 : 0 < z.length := by
    rcases Nat.eq_zero_or_pos z.length with h0 | h0
    · rw [h0] at hk; simp at hk
    · exact h0
  have hmod : k % z.length < z.length := Nat.mod_lt _ hz0
  have h2' : v' = z[k % z.length]! := by
    simp [hk] at h2
    rw [← h2]
    simp [hmod]
  have h1' : v = z[k % z.length] := by
    rw [List.getElem?_eq_getElem hmod] at h1
    cases h1; rfl
  have h3 : z[k % z.length]! = z[k % z.length] := by simp [hmod]
  rw [h2', h3, h1']
  obtain ⟨v'', hv'', hr⟩ := hz.get (k % z.length) _ (List.getElem?_eq_getElem hmod)
  rw [List.getElem?_eq_getElem hmod] at hv''
  cases hv''
  exact hr

def abuildSlice (C : Ctx) (t : TypeId) (len : Nat) (parts : List (Nat × Value)) : A Value :=
  match C.und t with
  | some (.slice e) =>
    match C.inf e, azeroO C e with
    | some ie, some z =>
      match len, parts with
      | 0, [] => do
        let _ ← anewRow e []
        pure (.func (.yield 1) #[] #[])
      | _, _ =>
      match Nat.ble (len * ie.size) 65536 && Nat.blt 0 (len * ie.size) && Nat.beq z.cells.toList.length ie.size with
      | false => A.fail
      | true =>
        match afill (fun i => some (i * ie.size, ie.size)) (repList len z.cells.toList) parts with
        | none => A.fail
        | some cs => do
          let a ← anewRow e cs
          pure (.slice (some a) len (2 * len))
    | _, _ => A.fail
  | _ => A.fail
theorem VRel.of_addr_exact {a a' : Addr} (h : AddrRel ρ a a') (n c : Nat) : VRel ρ (.slice (some a) n (2 * c)) (.slice (some a') n c) := by
  obtain ⟨p, h1, h2, rfl⟩ := h
  obtain ⟨b, o, sp⟩ := a
  simp only at h1 h2
  subst h2
  exact .slx h1
theorem sim_buildSlice (hC : C.Ok P) {t : TypeId} {len : Nat} {parts : List (Nat × Value)} {parts' : Array (Nat × Value)} (hp : PRels ρ parts parts'.toList) :
    SimAt P Pm ρ s w (abuildSlice C t len parts) (Instr.buildSlice t len parts') VRel := by
  unfold abuildSlice
  split
  · rename_i e ht
    split
    · rename_i ie z hie hz
      obtain ⟨it, hit, hiz, hzr⟩ := azeroO_spec hz
      rw [hie] at hit
      cases hit
      split
      · have hp0 : parts' = #[] := by
          cases parts' with
          | mk l => cases hp; rfl
        subst hp0
        unfold Instr.buildSlice
        refine sim_pre (y := .slice e) (run_underlying (hC.und _ _ ht) w) ?_
        dsimp only
        refine sim_pre (run_size hC hie w) ?_
        rw [if_neg (by omega), if_pos (by omega)]
        refine sim_pre (y := #[]) rfl ?_
        refine sim_congr (c' := do let a ← newRow e #[]; pure (.slice (some a) 0 0)) ?_ ?_
        · have h0 : Array.range 0 = #[] := by rfl
          simp [Instr.fill, h0]
        · refine sim_bind (sim_newRowA .nil) ?_
          intro ρ1 s1 w1 a a' _ h
          exact sim_pure (.listz (fun _ => rfl) (fun _ => rfl) (fun h => absurd h (by decide)))
      split
      · exact sim_fail
      rename_i hcond
      simp only [Bool.and_eq_true] at hcond
      have c1 := Nat.le_of_ble_eq_true hcond.1.1
      have c2 : 0 < len * ie.size := by have := hcond.1.2; rwa [Nat.blt_eq] at this
      have c3 := Nat.eq_of_beq_eq_true hcond.2
      split
      · exact sim_fail
      rename_i cs hcs
      unfold Instr.buildSlice
      refine sim_pre (y := .slice e) (run_underlying (hC.und _ _ ht) w) ?_
      dsimp only
      refine sim_pre (run_size hC hie w) ?_
      rw [if_neg (by omega), if_neg (by omega)]
      have hzv : ∀ w, (zeroValue e).run P w = .ok z w := by
        intro w
        unfold zeroValue
        rw [Sem.run_bind, run_typeInfo (hC.inf _ _ hie)]
        dsimp only
        rw [hiz]
        rfl
      have hrep : VRels ρ (repList len z.cells.toList) ((Array.range (len * ie.size)).map (fun i => z.cells[i % z.cells.size]!)).toList := by
        have := repList_rel (hzr ρ).cells len (len * ie.size) (by rw [c3])
        simpa using this
      obtain ⟨cs', hf, hrel⟩ := afill_rel (place' := fun i => some (i * ie.size, ie.size)) (fun i x hx => hx) parts parts'.toList _ _ cs hp hrep hcs
      refine sim_pre (hzv w) ?_
      refine sim_pre (y := z.cells) rfl ?_
      rw [hf]
      dsimp only
      refine sim_bind (sim_newRowA hrel) ?_
      intro ρ1 s1 w1 a a' _ h
      exact sim_pure (VRel.of_addr_exact h len len)
    · exact sim_fail
  · exact sim_fail

/-! ### 3. make([]T, n) -/
theorem sim_alloc_row {e : TypeId} {cs : List Value} {cs' : Array Value} {c : Sem Value} {v' : Value} {f : Addr → Value} (hc : VRels ρ cs cs'.toList)
    (hrun : c.run P w = .ok v' (w.alloc (.cells cs' e))) (hv : ∀ ρ' a, AddrRel ρ' a ⟨w.heap.size, 0, none⟩ → VRel ρ' (f a) v') :
    SimAt P Pm ρ s w (do let a ← anewRow e cs; pure (f a)) c VRel := by
  intro x s' h hp
  obtain ⟨ρ', a', w', e1, st, hr⟩ := (sim_newRowA (P := P) (Pm := Pm) (s := s) (w := w) hc) _ _ (show (anewRow e cs).run s = some (⟨s.n, 0, none⟩, _) from rfl) (hp.first (by cases h; exact AS.le.refl _))
  have e2 : (newRow e cs').run P w = .ok ⟨w.heap.size, 0, none⟩ (w.alloc (.cells cs' e)) := rfl
  rw [e2] at e1
  cases e1
  cases h
  exact ⟨ρ', v', _, hrun, st, hv _ _ hr⟩

def amakeSlice (C : Ctx) (t : TypeId) (l c : Value) : A Value :=
  match C.und t, l, c with
  | some (.slice e), .int _ l, .int _ c =>
    match C.inf e, azeroO C e with
    | some ie, some z =>
      match decide (0 ≤ l) && decide (l ≤ c) && decide (c ≤ 65536) && Nat.ble ie.bytes 65536 && Nat.beq z.cells.toList.length ie.size with
      | false => A.fail
      | true => do
        let a ← anewRow e (repList c.toNat z.cells.toList)
        pure (.slice (some a) l.toNat (2 * c.toNat))
    | _, _ => A.fail
  | _, _, _ => A.fail
theorem sim_makeSlice (hC : C.Ok P) {t : TypeId} {l l' c c' : Value} (hl : VRel ρ l l') (hc : VRel ρ c c') :
    SimAt P Pm ρ s w (amakeSlice C t l c) (Instr.makeSlice t l' c') VRel := by
  unfold amakeSlice
  split
  · rename_i e _ l _ c ht
    cases hl
    cases hc
    split
    · rename_i ie z hie hz
      obtain ⟨it, hit, hiz, hzr⟩ := azeroO_spec hz
      rw [hie] at hit
      cases hit
      split
      · exact sim_fail
      rename_i hcond
      simp only [Bool.and_eq_true, decide_eq_true_eq] at hcond
      obtain ⟨⟨⟨⟨h0, h1⟩, h2⟩, h3⟩, h4⟩ := hcond
      have h3 := Nat.le_of_ble_eq_true h3
      have h4 := Nat.eq_of_beq_eq_true h4
      have hb : (ie.bytes : Int) * c ≤ 281474976710656 := by
        have : (ie.bytes : Int) * c ≤ 65536 * 65536 := Int.mul_le_mul (by omega) h2 (by omega) (by omega)
        omega
      have hrun := run_make (P := P) w t e ie z (hC.und _ _ ht) (hC.inf _ _ hie) hiz (by assumption) (by assumption) l c h0 h1 hb (by omega)
      refine sim_alloc_row ?_ hrun ?_
      · have := repList_rel (hzr ρ).cells c.toNat (c.toNat * ie.size) (by rw [h4])
        simpa [madeCells] using this
      · intro ρ' a ha
        exact VRel.of_addr_exact ha _ _
    · exact sim_fail
  · exact sim_fail

/-! ### 4. Append, copy -/
theorem Step.drawn {k : Nat} {sf : AS} (hp : Pre Pm ρ s w sf) : Step Pm ρ s w ρ s { w with drawn := k } where
  rep := ⟨fun i o hi ho => (hp.rep.obj i o hi ho).other fun _ _ _ => rfl, hp.rep.inj, hp.rep.fz, hp.rep.off⟩
  ext := Rho.ext.refl ρ
  dom := fun _ h _ => h
  new := hp.new
  dead := fun _ _ h => h
  size := Nat.le_refl _
  frame := fun _ _ _ => rfl
  newb := fun i p hi hl hp => .inr ⟨i, p, hi, hl, hp, rfl⟩
  newz := fun _ _ h => .inl h
  os := rfl
  tape := rfl
  output := rfl
theorem sim_drawn {α β : Type} {a : A α} {c c' : Sem β} {R : Rho → α → β → Prop} (n : Nat) (h : c.run P w = c'.run P { w with drawn := n }) (k : SimAt P Pm ρ s { w with drawn := n } a c' R) :
    SimAt P Pm ρ s w a c R := by
  intro x s' e hp
  have st := Step.drawn (k := n) hp
  obtain ⟨ρ', y, w', e', st', r⟩ := k x s' e (hp.next (AS.le.refl s) st)
  exact ⟨ρ', y, w', h.trans e', st.trans st' (Nat.le_refl _) (a.mono _ _ _ e).n, r⟩

theorem run_first_fz {k size n : Nat} {items : Array Value} {x' : Value} (hf : ∀ b o, ρ.fz b = some o → w.heap[b]? = some o) (hx : VRel ρ (.func (.yield k) items #[]) x') (hn : n ≤ items.toList.length) (hh : headOk size items.toList = true) :
    ∃ y, (Builtin.firstCells size n x').run P w = .ok y w ∧ VRels ρ (flatC (items.toList.take n)) y.toList ∧ (flatC (items.toList.take n)).length = n * size := by
  cases hx with
  | @listz _ _ a hk hk2 hk3 =>
    have h0 : n = 0 := by simpa using hn
    subst h0
    refine ⟨#[], ?_, .nil, by simp [flatC]⟩
    cases a with
    | none => rfl
    | some a => simp only [Builtin.firstCells, Nat.zero_mul]; rfl
  | @list _ b off cap sz _ c e fr hfz hsz hr hcap hk hpu =>
    by_cases h0 : n = 0
    · subst h0
      refine ⟨#[], ?_, by simp [flatC]; exact .nil, by simp [flatC]⟩
      simp only [Builtin.firstCells, Nat.zero_mul]; rfl
    · have hs := headOk_spec hh hsz (by omega)
      subst hs
      have h1 := list_part (ρ := ρ) (l := 0) (m := n) (off := off) (c := c) hsz hr (by omega)
      simp only [List.drop_zero, Nat.zero_mul, Nat.add_zero] at h1
      have h2 := hr.length
      rw [flatC_length hsz, cutC_length] at h2
      have h3 : n * sz ≤ items.toList.length * sz := Nat.mul_le_mul_right _ hn
      refine ⟨(cutC c off (n * sz)).toArray, ?_, h1.1, by rw [flatC_length h1.2.1, h1.2.2]⟩
      simp only [Builtin.firstCells, loadCells]
      by_cases h4 : n * sz = 0
      · rw [h4]
        simp [loadCellsFrom, cutC]
      · rw [run_loadFrom_fz (hf _ _ hfz) (n * sz) 0 #[] (by omega)]
        simp

def acells (size n : Nat) (x : Value) : A (List Value) :=
  match x with
  | .func (.yield _) items _ => match Nat.ble n items.toList.length && headOk size items.toList with
    | true => pure (flatC (items.toList.take n))
    | false => A.fail
  | .slice (some a) _ _ => aloadN a (n * size)
  | .slice none _ _ => pure []
  | .string s => pure ((s.data.toList.take n).map fun b => .int .u8 b.toNat)
  | _ => A.fail
theorem sim_cells {size n : Nat} {x x' : Value} (hx : VRel ρ x x') (hn : ∀ a m c, x = .slice a m c → n ≤ m) :
    SimAt P Pm ρ s w (acells size n x) (Builtin.firstCells size n x') (fun ρ x y => VRels ρ x y.toList) := by
  cases hx with
  | snil => exact sim_pure .nil
  | @slx i o n c p h => exact sim_loadN (a := ⟨i, o, none⟩) _ ⟨p, h, rfl, rfl⟩
  | @slu i o n c e p h _ _ => exact sim_loadN (a := ⟨i, o, none⟩) _ ⟨p, h, rfl, rfl⟩
  | slz h =>
    have : n = 0 := by have := hn _ _ _ rfl; omega
    subst this
    unfold acells Builtin.firstCells
    simp only [Nat.zero_mul]
    exact sim_pure .nil
  | str y =>
    unfold acells Builtin.firstCells
    refine sim_pure ?_
    have : (Array.map (fun b : UInt8 => Value.int .u8 b.toNat) (y.extract 0 n).data).toList = (y.data.toList.take n).map fun b => Value.int .u8 b.toNat := by
      cases y with
      | mk d => cases d with
        | mk l =>
          rw [show (ByteArray.mk ⟨l⟩) = ByteArray.mk l.toArray from rfl, Go.ByteArray.extract_mk]
          simp
    rw [this]
    generalize (y.data.toList.take n) = l
    induction l with
    | nil => exact .nil
    | cons b l ih => exact .cons (.int _ _) ih
  | @listz k cap a hk hk2 hk3 =>
    simp only [acells]
    split
    · rename_i hc
      rw [Bool.and_eq_true] at hc
      intro x s' e hp
      obtain ⟨y, h1, h2, _⟩ := run_first_fz (P := P) (size := size) (n := n) hp.rep.fz (VRel.listz (ρ := ρ) (k := k) (cap := cap) (a := a) hk hk2 hk3) (Nat.le_of_ble_eq_true hc.1) hc.2
      cases e
      exact ⟨ρ, y, w, h1, Step.refl hp, h2⟩
    · exact sim_fail
  | @list k b off cap sz items c e fr hfz hsz hr hcap hk hpu =>
    simp only [acells]
    split
    · rename_i hc
      rw [Bool.and_eq_true] at hc
      intro x s' ex hp
      obtain ⟨y, h1, h2, _⟩ := run_first_fz (P := P) (size := size) (n := n) hp.rep.fz (VRel.list (ρ := ρ) (k := k) hfz hsz hr hcap hk hpu) (Nat.le_of_ble_eq_true hc.1) hc.2
      cases ex
      exact ⟨ρ, y, w, h1, Step.refl hp, h2⟩
    · exact sim_fail
  | _ => exact sim_fail

def isSeqD : TypeDesc → Bool
  | .slice _ => true
  | .string => true
  | _ => false
theorem isSeqD_cases {d : TypeDesc} (h : isSeqD d = true) : (∃ e, d = .slice e) ∨ d = .string := by
  cases d <;> simp [isSeqD] at h ⊢
theorem append_room (hC : C.Ok P) {st xt e : TypeId} {d : TypeDesc} {inf : TypeInfo} {ty : TypeId} {base : Option Addr} {sLen sCap n : Nat} {x' : Value}
    (hs : C.und st = some (.slice e)) (hx : C.und xt = some d) (hd : isSeqD d = true) (he : C.inf e = some inf)
    (hn : (Builtin.lenOf x').run P w = .ok n w) (hroom : sLen + n ≤ sCap) :
    (Builtin.append_ #[st, xt] ty #[.slice base sLen sCap, x']).run P w = (do
      let new ← Builtin.firstCells inf.size n x'
      match base with
      | some a => do
        storeCells (a.add (sLen * inf.size)) new.toList
        pure (.slice base (sLen + n) sCap)
      | none => pure (.slice base (sLen + n) sCap) : Sem Value).run P w := by
  have hu := Go.run_underlying (hC.und _ _ hs)
  have hux := Go.run_underlying (hC.und _ _ hx)
  have hi := hC.inf _ _ he
  rcases isSeqD_cases hd with ⟨e', rfl⟩ | rfl <;> cases base <;> simp [Builtin.append_, hu, hux, sizeOf, typeInfo, hi, hn, hroom]
theorem append_grow (hC : C.Ok P) {st xt e : TypeId} {d : TypeDesc} {inf : TypeInfo} {z : Value} {ty : TypeId} {base : Option Addr} {sLen sCap n : Nat} {x' : Value}
    (hs : C.und st = some (.slice e)) (hx : C.und xt = some d) (hd : isSeqD d = true) (he : C.inf e = some inf) (hz : inf.zero = some z)
    (hn : (Builtin.lenOf x').run P w = .ok n w) (hroom : ¬ sLen + n ≤ sCap) (hfit : (sLen + n) * inf.bytes ≤ 140737488355328) (h63 : sLen + n ≤ 9223372036854775807) :
    ∃ newCap, sLen + n ≤ newCap ∧ (Builtin.append_ #[st, xt] ty #[.slice base sLen sCap, x']).run P w = (do
      let old ← Builtin.firstCells inf.size sLen (.slice base sLen sCap)
      let new ← Builtin.firstCells inf.size n x'
      let a ← newRow e (old ++ new ++ Builtin.zeroCells z.cells (newCap - (sLen + n)))
      pure (.slice (some a) (sLen + n) newCap) : Sem Value).run P { w with drawn := w.drawn + 1 } := by
  have hu := Go.run_underlying (hC.und _ _ hs)
  have hux := Go.run_underlying (hC.und _ _ hx)
  have hi := hC.inf _ _ he
  have h48 := growslice_fits (old := sCap) (need := sLen + n) (bytes := inf.bytes) (by omega) hfit
  have h63' : ¬ (9223372036854775807 < ((sLen : Int) + (n : Int))) := by omega
  have h48' : ¬ (281474976710656 < Builtin.nextslicecap (sLen + n) sCap * inf.bytes) := by omega
  refine ⟨grownCap w (sLen + n) sCap e, ?_, ?_⟩
  · unfold grownCap Question.cut
    dsimp only
    omega
  · rcases isSeqD_cases hd with ⟨e', rfl⟩ | rfl <;> simp [Builtin.append_, hu, hux, sizeOf, typeInfo, zeroValue, hi, hz, hn, hroom, h63', h48', Question.forced, grownCap]
end
end
end Go.Proofs.BhE
