/- The closed run's maps whose keys are whole numbers. -/
import Derived.Test.YtchapnlmibngbaaGreatDoorEvI
set_option linter.all false
namespace Go.Proofs.BhE
open Go
noncomputable section

/-! ### 1. Entries -/
structure EntRel (ρ : Rho) (es es' : List MapEntry) : Prop where
  key : VRels ρ (es.map (·.key)) (es'.map (·.key))
  val : VRels ρ (es.map (·.val)) (es'.map (·.val))
  born : es.map (·.born) = es'.map (·.born)
theorem EntRel.empty (ρ : Rho) : EntRel ρ [] [] := ⟨.nil, .nil, rfl⟩
theorem EntRel.ext {ρ ρ' : Rho} {es es' : List MapEntry} (h : EntRel ρ es es') (e : Rho.ext ρ ρ') : EntRel ρ' es es' := ⟨h.key.ext e, h.val.ext e, h.born⟩
theorem EntRel.snoc {ρ : Rho} {es es' : List MapEntry} (h : EntRel ρ es es') {k k' v v' : Value} (hk : VRel ρ k k') (hv : VRel ρ v v') (b : Nat) :
    EntRel ρ (es ++ [⟨k, v, b⟩]) (es' ++ [⟨k', v', b⟩]) := by
  refine ⟨?_, ?_, ?_⟩
  · simpa using h.key.append (.cons hk .nil)
  · simpa using h.val.append (.cons hv .nil)
  · simp [h.born]

theorem EntRel.modify {ρ : Rho} {es es' : Array MapEntry} (h : EntRel ρ es.toList es'.toList) (j : Nat) {k k' v v' : Value} (hk : VRel ρ k k') (hv : VRel ρ v v') :
    EntRel ρ (es.modify j fun e => { e with key := k, val := v }).toList (es'.modify j fun e => { e with key := k', val := v' }).toList := by
  rw [Array.toList_modify, Array.toList_modify]
  have hk2 : ∀ (l : List MapEntry) (j : Nat) (k v : Value), (l.modify j fun e => { e with key := k, val := v }).map (·.key) = (l.map (·.key)).set j k := by
    intro l
    induction l with
    | nil => intro j k v; simp
    | cons e l ih =>
      intro j k v
      cases j with
      | zero => simp
      | succ j => simp [ih]
  have hv2 : ∀ (l : List MapEntry) (j : Nat) (k v : Value), (l.modify j fun e => { e with key := k, val := v }).map (·.val) = (l.map (·.val)).set j v := by
    intro l
    induction l with
    | nil => intro j k v; simp
    | cons e l ih =>
      intro j k v
      cases j with
      | zero => simp
      | succ j => simp [ih]
  have hb2 : ∀ (l : List MapEntry) (j : Nat) (k v : Value), (l.modify j fun e => { e with key := k, val := v }).map (·.born) = l.map (·.born) := by
    intro l
    induction l with
    | nil => intro j k v; simp
    | cons e l ih =>
      intro j k v
      cases j with
      | zero => simp
      | succ j => simp [ih]
  refine ⟨?_, ?_, ?_⟩
  · rw [hk2, hk2]; exact h.key.set j hk
  · rw [hv2, hv2]; exact h.val.set j hv
  · rw [hb2, hb2]; exact h.born

theorem findNow_rel {ρ : Rho} {kk k : IntKind} {n : Int} : ∀ {es es' : List MapEntry} {i : Nat} {r : Option (Nat × Value)}, VRels ρ (es.map (·.key)) (es'.map (·.key)) → VRels ρ (es.map (·.val)) (es'.map (·.val)) →
    Instr.findNow (.int kk) (.int k n) es i = some r → ∃ r', Instr.findNow (.int kk) (.int k n) es' i = some r' ∧
      ((r = none ∧ r' = none) ∨ (∃ j v v', r = some (j, v) ∧ r' = some (j, v') ∧ VRel ρ v v' ∧ i ≤ j ∧ (es[j - i]?).map (·.key) = some (.int k n))) := by
  intro es
  induction es with
  | nil =>
    intro es' i r hk hv h
    cases es' with
    | nil => cases h; exact ⟨none, rfl, .inl ⟨rfl, rfl⟩⟩
    | cons _ _ => simp only [List.map_cons, List.map_nil] at hk; cases hk
  | cons e es ih =>
    intro es' i r hk hv h
    cases es' with
    | nil => simp only [List.map_cons, List.map_nil] at hk; cases hk
    | cons e' es' =>
      simp only [List.map_cons] at hk hv
      cases hk with
      | cons hk1 hk2 =>
      cases hv with
      | cons hv1 hv2 =>
      unfold Instr.findNow at h ⊢
      have hs : ∀ b, Instr.sameNow (.int kk) (.int k n) e.key = some b → e'.key = e.key ∧ (b = true → e.key = .int k n) := by
        intro b hb
        generalize e.key = x at hb hk1
        generalize e'.key = y at hk1
        cases hk1 <;> simp [Instr.sameNow] at hb
        refine ⟨rfl, fun hbt => ?_⟩
        subst hbt
        obtain ⟨h1, h2⟩ := hb
        rw [h1]
        simp at h2
        rw [h2]
      cases hx : Instr.sameNow (.int kk) (.int k n) e.key with
      | none => rw [hx] at h; cases h
      | some b =>
        obtain ⟨h1, h2⟩ := hs b hx
        rw [hx] at h
        rw [h1, hx]
        cases b with
        | true =>
          dsimp only at h ⊢
          cases h
          exact ⟨_, rfl, .inr ⟨i, e.val, e'.val, rfl, rfl, hv1, Nat.le_refl _, by simp [h2 rfl]⟩⟩
        | false =>
          dsimp only at h ⊢
          obtain ⟨r', h3, h4⟩ := ih hk2 hv2 h
          refine ⟨r', h3, ?_⟩
          rcases h4 with h4 | ⟨j, v, v', h5, h6, h7, h8, h9⟩
          · exact .inl h4
          · refine .inr ⟨j, v, v', h5, h6, h7, by omega, ?_⟩
            rw [show j - i = (j - (i + 1)) + 1 by omega]
            simpa using h9

/-! ### 2. A map's object -/
def amapGet (i : Nat) : A (Array MapEntry × Nat) :=
  ⟨fun s => match s.h.get i with
    | some (.map es c) => some ((es, c), s.touchR i)
    | _ => none,
   fun s x s' h => by
    revert h
    split
    · intro h; cases h; exact AS.touchR_le _ _
    · intro h; cases h⟩
def amapSet (i : Nat) (es : Array MapEntry) (c : Nat) : A Unit :=
  ⟨fun s => match s.h.get i with
    | some (.map _ _) => some ((), (s.touchW i).put i (.map es c))
    | _ => none,
   fun s x s' h => by
    revert h
    split
    · rename_i hg
      intro h; cases h; exact AS.write_le _ _ _ hg
    · intro h; cases h⟩

section
variable {P : Program} {C : Ctx} {Pm : Nat → Prop} {ρ : Rho} {s : AS} {w : World}

theorem sim_mapGet {i : Nat} {p : Place} (hρ : ρ i = some p) : SimAt P Pm ρ s w (amapGet i) (getObj p.block) (fun ρ x o => ∃ es', o = .map es' x.2 ∧ EntRel ρ x.1.toList es'.toList) := by
  intro x s' h hp
  unfold amapGet at h
  dsimp only at h
  split at h
  · rename_i es c hg
    cases h
    have hPm : Pm i := by
      rcases AS.touchR_in i s with h0 | h0
      · refine hp.above _ h0 ?_
        rw [(AS.touchR_h i s).2]
        exact hp.lt hg
      · exact hp.rd _ h0
    obtain ⟨p', es', hp1, hb, h3, h4, h5⟩ := hp.rep.obj _ _ hPm hg
    rw [hρ] at hp1
    cases hp1
    refine ⟨ρ, _, w, ?_, Step.same hp (AS.touchR_h _ _).1 (AS.touchR_h _ _).2, es', rfl, ⟨h3, h4, h5⟩⟩
    simp only [getObj, Sem.run, hb]
  · cases h
theorem sim_mapSet {i : Nat} {p : Place} (hρ : ρ i = some p) {es es' : Array MapEntry} {c : Nat} (he : EntRel ρ es.toList es'.toList) :
    SimAt P Pm ρ s w (amapSet i es c) (setObj p.block (.map es' c)) (fun _ _ _ => True) := by
  intro x s' h hp
  unfold amapSet at h
  dsimp only at h
  split at h
  · rename_i es0 c0 hg
    cases h
    have hPm : Pm i := by
      rcases AS.touchW_in i s with h0 | h0
      · refine hp.above _ h0 ?_
        show i < (s.touchW i).n
        rw [(AS.touchW_h i s).2]
        exact hp.lt hg
      · exact hp.wr _ h0
    obtain ⟨p', es1, hp1, hb, _⟩ := hp.rep.obj _ _ hPm hg
    rw [hρ] at hp1
    cases hp1
    have hbl : p.block < w.heap.size := by
      rcases Nat.lt_or_ge p.block w.heap.size with h3 | h3
      · exact h3
      · rw [Array.getElem?_eq_none h3] at hb; cases hb
    refine ⟨ρ, (), { w with heap := w.heap.setIfInBounds p.block (.map es' c) }, ?_, ?_, trivial⟩
    · simp only [setObj, Sem.run, hb]
    · refine Step.write hp hPm ⟨_, hg, trivial⟩ hρ (s' := (s.touchW i).put i (.map es c)) (o := .map es c) ?_ ?_ ?_ ?_ ?_ rfl rfl rfl
      · show (s.touchW i).h.set _ _ = _
        rw [(AS.touchW_h i s).1]
      · show (s.touchW i).n = _
        exact (AS.touchW_h i s).2
      · exact ⟨p, es', hρ, by simp [hbl], he.key, he.val, he.born⟩
      · intro b hb'
        rw [Array.getElem?_setIfInBounds_ne (Ne.symm hb')]
      · simp
  · cases h
theorem sim_mapNew : SimAt P Pm ρ s w (anew (.map #[] 0)) (newObj (.map #[] 0)) (fun ρ' i r => ∃ p, ρ' i = some p ∧ p.block = r) := by
  intro x s' h hp
  cases h
  refine ⟨ρ.put s.n ⟨w.heap.size, 0, 0⟩, w.heap.size, { w with heap := w.heap.push (.map #[] 0) }, rfl, ?_, ?_⟩
  · refine Step.make hp (o := .map #[] 0) rfl rfl ?_ (Nat.le_refl _) ?_ ?_ rfl rfl rfl
    · exact ⟨⟨w.heap.size, 0, 0⟩, #[], by simp [Rho.put], by simp, .nil, .nil, rfl⟩
    · intro b hb
      simp [Array.getElem?_push, Nat.ne_of_lt hb]
    · simp
  · exact ⟨⟨w.heap.size, 0, 0⟩, by simp [Rho.put], rfl⟩

theorem sim_post {α β γ : Type} {a : A α} {c : Sem β} {g : β → Sem γ} {R : Rho → α → β → Prop} {R' : Rho → α → γ → Prop} (h : SimAt P Pm ρ s w a c R)
    (k : ∀ ρ x y, R ρ x y → ∃ z, (∀ w, (g y).run P w = .ok z w) ∧ R' ρ x z) : SimAt P Pm ρ s w a (c >>= g) R' := by
  intro x s' hx hp
  obtain ⟨ρ1, y, w1, e1, st, r⟩ := h x s' hx hp
  obtain ⟨z, h1, h2⟩ := k ρ1 x y r
  refine ⟨ρ1, z, w1, ?_, st, h2⟩
  rw [Sem.run_bind, e1]
  exact h1 w1

/-! ### 3. The operations -/
theorem run_checkKey {kt : TypeId} {kk k : IntKind} {n : Int} (hk : P.underlying kt = some (.int kk)) (b : Bool) (m : Nat) (w : World) : (Instr.checkKey b (m + 1) kt (.int k n)).run P w = .ok () w := by
  rw [Instr.checkKey, Sem.run_bind, run_underlying hk]
  rfl
theorem run_findKey {kt : TypeId} {kk k : IntKind} {n : Int} (hk : P.underlying kt = some (.int kk)) {es : List MapEntry} {r : Option (Nat × Value)} (h : Instr.findNow (.int kk) (.int k n) es 0 = some r) (w : World) :
    (Instr.findKey kt (.int k n) es).run P w = .ok r w := by
  unfold Instr.findKey
  rw [Sem.run_bind, run_underlying hk]
  dsimp only
  rw [h]
  rfl
def amakeMap (reserve : Option Value) : A Value :=
  match reserve with
  | some _ => A.fail
  | none => do
    let i ← anew (.map #[] 0)
    pure (.map (some i))
theorem sim_makeMap (t : TypeId) : SimAt P Pm ρ s w (amakeMap none) (Instr.makeMap t none) VRel := by
  unfold amakeMap Instr.makeMap
  change SimAt P Pm ρ s w _ (newObj (.map #[] 0) >>= fun r => pure (.map (some r))) VRel
  refine sim_bind sim_mapNew ?_
  rintro ρ1 s1 w1 i r e1 ⟨p, h1, rfl⟩
  exact sim_pure (.map h1)
def alookup (C : Ctx) (xt : TypeId) (x ix : Value) : A Value :=
  match C.und xt with
  | some (.map kt et) => match C.und kt, ix, azeroO C et with
    | some (.int kk), .int k n, some z => match x with
      | .map none => pure z
      | .map (some r) => do
        let m ← amapGet r
        match Instr.findNow (.int kk) (.int k n) m.1.toList 0 with
        | some (some (_, v)) => pure v
        | some none => pure z
        | none => A.fail
      | _ => A.fail
    | _, _, _ => A.fail
  | _ => A.fail
theorem sim_lookup (hC : C.Ok P) {xt : TypeId} {x x' ix ix' : Value} (hx : VRel ρ x x') (hi : VRel ρ ix ix') : SimAt P Pm ρ s w (alookup C xt x ix) (Instr.lookup xt x' ix' false) VRel := by
  unfold alookup
  split
  · rename_i kt et ht
    split
    · rename_i kk k n z hkt hz
      cases hi
      obtain ⟨it, hit, hiz, hzr⟩ := azeroO_spec hz
      have hzv : ∀ w, (zeroValue et).run P w = .ok z w := by
        intro w
        unfold zeroValue
        rw [Sem.run_bind, run_typeInfo (hC.inf _ _ hit)]
        dsimp only
        rw [hiz]
        rfl
      have hund := hC.und _ _ hkt
      unfold Instr.lookup
      refine sim_pre (y := .map kt et) (run_underlying (hC.und _ _ ht) w) ?_
      dsimp only
      split
      · cases hx
        refine sim_pre (y := #[]) rfl ?_
        refine sim_pre (y := ()) (run_checkKey hund _ 9999 w) ?_
        refine sim_pre (y := none) (run_findKey hund rfl w) ?_
        dsimp only
        refine sim_pre (hzv w) ?_
        refine sim_pre (y := (z, false)) rfl ?_
        exact sim_pure (hzr ρ)
      · rename_i r
        cases hx with
        | @map _ p hp =>
        dsimp only
        refine sim_bind (sim_mapGet hp) ?_
        · rintro ρ1 s1 w1 m o e1 ⟨es', rfl, he⟩
          dsimp only
          refine sim_pre (y := es') rfl ?_
          split
          · rename_i j v hf
            obtain ⟨r', h1, h2⟩ := findNow_rel he.key he.val hf
            rcases h2 with ⟨h2, _⟩ | ⟨j', v1, v', h3, h4, h5, _⟩
            · cases h2
            cases h3
            refine sim_pre (y := ()) (run_checkKey hund _ 9999 w1) ?_
            refine sim_pre (run_findKey hund h1 w1) ?_
            rw [h4]
            dsimp only
            refine sim_pre (y := (v', true)) rfl ?_
            exact sim_pure h5
          · rename_i hf
            obtain ⟨r', h1, h2⟩ := findNow_rel he.key he.val hf
            rcases h2 with ⟨_, h2⟩ | ⟨j', v1, v', h3, _⟩
            · refine sim_pre (y := ()) (run_checkKey hund _ 9999 w1) ?_
              refine sim_pre (run_findKey hund h1 w1) ?_
              rw [h2]
              dsimp only
              refine sim_pre (hzv w1) ?_
              refine sim_pre (y := (z, false)) rfl ?_
              exact sim_pure (hzr ρ1)
            · cases h3
          · exact sim_fail
      · exact sim_fail
    · exact sim_fail
  · exact sim_fail

def amapUpdate (C : Ctx) (mt : TypeId) (x ix v : Value) : A Unit :=
  match C.und mt, x, ix with
  | some (.map kt _), .map (some r), .int k n => match C.und kt with
    | some (.int kk) => do
      let m ← amapGet r
      match Instr.findNow (.int kk) (.int k n) m.1.toList 0 with
      | some (some (j, _)) => amapSet r (m.1.modify j fun e => { e with key := .int k n, val := v }) m.2
      | some none => amapSet r (m.1.push ⟨.int k n, v, m.2⟩) (m.2 + 1)
      | none => A.fail
    | _ => A.fail
  | _, _, _ => A.fail
theorem sim_mapUpdate (hC : C.Ok P) {mt : TypeId} {x x' ix ix' v v' : Value} (hx : VRel ρ x x') (hi : VRel ρ ix ix') (hv : VRel ρ v v') : SimAt P Pm ρ s w (amapUpdate C mt x ix v) (Instr.mapUpdate mt x' ix' v') (fun _ _ _ => True) := by
  unfold amapUpdate
  split
  · rename_i kt et r k n ht
    split
    · rename_i kk hkt
      cases hi
      cases hx with
      | @map _ p hp =>
      have hund := hC.und _ _ hkt
      unfold Instr.mapUpdate
      refine sim_pre (y := .map kt et) (run_underlying (hC.und _ _ ht) w) ?_
      dsimp only
      refine sim_bind (sim_mapGet hp) ?_
      rintro ρ1 s1 w1 m o e1 ⟨es', rfl, he⟩
      dsimp only
      split
      · rename_i j u hf
        obtain ⟨r', h1, h2⟩ := findNow_rel he.key he.val hf
        rcases h2 with ⟨h2, _⟩ | ⟨j', v1, v2, h3, h4, h5, _, h7⟩
        · cases h2
        cases h3
        refine sim_pre (y := ()) (run_checkKey hund _ 9999 w1) ?_
        refine sim_pre (run_findKey hund h1 w1) ?_
        rw [h4]
        dsimp only
        have hkey : ((es'[j]?).map (·.key)).getD (.int k n) = .int k n := by
          have h8 := he.key.get j (.int k n) (by simpa using h7)
          obtain ⟨k', h9, h10⟩ := h8
          cases h10
          have : (es'[j]?).map (·.key) = some (.int k n) := by
            rw [← Array.getElem?_toList, ← List.getElem?_map]
            exact h9
          rw [this]
          rfl
        rw [hkey]
        refine sim_pre (y := .int k n) ?_ ?_
        · have hsb : Instr.sameBits 10000 (.int k n) (.int k n) = true := by
            rw [Instr.sameBits]
            simp
          unfold Instr.keyThatStays
          rw [if_pos hsb]
          rfl
        · refine sim_mapSet (e1.at_ _ _ hp) ?_
          exact he.modify j (.int k n) (hv.ext e1)
      · rename_i hf
        obtain ⟨r', h1, h2⟩ := findNow_rel he.key he.val hf
        rcases h2 with ⟨_, h2⟩ | ⟨j', v1, v2, h3, _⟩
        · refine sim_pre (y := ()) (run_checkKey hund _ 9999 w1) ?_
          refine sim_pre (run_findKey hund h1 w1) ?_
          rw [h2]
          dsimp only
          refine sim_mapSet (e1.at_ _ _ hp) ?_
          simpa using he.snoc (.int k n) (hv.ext e1) m.2
        · cases h3
      · exact sim_fail
    · exact sim_fail
  · exact sim_fail
end
end
end Go.Proofs.BhE
