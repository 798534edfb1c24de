/- Every operation of a closed run is the model's own: all in one. -/
import Derived.Test.YtchapnlmibngbaaGreatDoorEvJ
set_option linter.all false
namespace Go.Proofs.BhE
open Go
noncomputable section

section
variable {P : Program} {C : Ctx} {Pm : Nat → Prop} {ρ : Rho} {s : AS} {w : World} {e : Operand → Value} {ev : Operand → Option Value}

theorem list_two {α : Type} {x : Array α} {a b : α} (h : x.toList = [a, b]) : x = #[a, b] := by
  cases x; simp at h; rw [h]
theorem list_one {α : Type} {x : Array α} {a : α} (h : x.toList = [a]) : x = #[a] := by
  cases x; simp at h; rw [h]
theorem VRels.two {a b : Value} {l : Array Value} (h : VRels ρ [a, b] l.toList) : ∃ a' b', l = #[a', b'] ∧ VRel ρ a a' ∧ VRel ρ b b' := by
  rcases l with ⟨l⟩
  cases h with
  | cons h1 h => cases h with
    | cons h2 h => cases h; exact ⟨_, _, rfl, h1, h2⟩
theorem VRels.one {a : Value} {l : Array Value} (h : VRels ρ [a] l.toList) : ∃ a', l = #[a'] ∧ VRel ρ a a' := by
  rcases l with ⟨l⟩
  cases h with
  | cons h1 h => cases h; exact ⟨_, rfl, h1⟩

theorem sim_builtin (hC : C.Ok P) {b : Builtin} {ts : Array TypeId} {ty : TypeId} {consts : Array Bool} {l : List Value} {l' : Array Value} (hl : VRels ρ l l'.toList) :
    SimAt P Pm ρ s w (avalA (abuiltin C b ts.toList l)) (builtin b ts ty consts l') NRel := by
  unfold abuiltin
  split
  · rename_i t rest x ht
    obtain ⟨x', rfl, hx⟩ := hl.one
    have h0 : ts[0]? = some t := by
      have : ts.toList[0]? = some t := by rw [ht]; rfl
      simpa using this
    exact sim_avalA (sim_opt fun r hr => ⟨r, alen_run (P := P) (C := C) (by assumption) h0 hr hx w⟩)
  · rename_i t rest x ht
    obtain ⟨x', rfl, hx⟩ := hl.one
    have h0 : ts[0]? = some t := by
      have : ts.toList[0]? = some t := by rw [ht]; rfl
      simpa using this
    exact sim_avalA (sim_opt fun r hr => ⟨r, acap_run (P := P) (C := C) hC h0 hr hx w⟩)
  · rename_i st xt x0 x1 ht
    obtain ⟨a', b', rfl, h0, h1⟩ := hl.two
    rw [list_two ht]
    exact sim_avalA (sim_append hC h0 h1)
  · rename_i dt xt x0 x1 ht
    obtain ⟨a', b', rfl, h0, h1⟩ := hl.two
    rw [list_two ht]
    exact sim_avalA (sim_copy hC h0 h1)
  · exact sim_avalA (sim_opt fun r hr => ⟨r, amin_run (P := P) (ts := ts) (ty := ty) (isMax := false) hr hl w⟩)
  · exact sim_avalA (sim_opt fun r hr => ⟨r, amin_run (P := P) (ts := ts) (ty := ty) (isMax := true) hr hl w⟩)
  · rename_i t x ht
    obtain ⟨x', rfl, hx⟩ := hl.one
    have h0 : ts[0]? = some t := by
      have : ts.toList[0]? = some t := by rw [ht]; rfl
      simpa using this
    exact sim_avalA (sim_clear hC h0 hx)
  · intro x s' hz hp
    obtain ⟨v, s1, h1, _⟩ := A.bindRun_some (s := s) (a := (A.fail : A Value)) (f := fun v => pure (ANext.val v)) hz
    cases h1

theorem sim_aval_none {c : Sem Next} {R : Rho → ANext → Next → Prop} : SimAt P Pm ρ s w (aval none) c R := by
  intro x s' hz hp
  obtain ⟨v, s1, h1, _⟩ := A.bindRun_some (s := s) (a := A.ofOption (none : Option Value)) (f := fun v => pure (ANext.val v)) hz
  cases h1

theorem sim_op (hC : C.Ok P) (he : EvRel ρ ev e) (o : Oper) : SimAt P Pm ρ s w (aop C ev o) (execOp e o) NRel := by
  obtain ⟨dst, op, ty, pos, after, guard⟩ := o
  have two : ∀ {x y : Operand} {k : Value → Value → A ANext} {c : Sem Next}, (∀ a b, ev x = some a → ev y = some b → SimAt P Pm ρ s w (k a b) c NRel) →
      SimAt P Pm ρ s w (match ev x, ev y with | some a, some b => k a b | _, _ => A.fail) c NRel := by
    intro x y k c h
    cases hx : ev x with
    | none => exact sim_fail
    | some a => cases hy : ev y with
      | none => exact sim_fail
      | some b => exact h a b hx hy
  have one : ∀ {x : Operand} {k : Value → A ANext} {c : Sem Next}, (∀ a, ev x = some a → SimAt P Pm ρ s w (k a) c NRel) →
      SimAt P Pm ρ s w (match ev x with | some a => k a | none => A.fail) c NRel := by
    intro x k c h
    cases hx : ev x with
    | none => exact sim_fail
    | some a => exact h a hx
  cases op <;> unfold aop execOp <;> dsimp only
  case move x => exact sim_now fun r hr => he _ _ hr
  case assign x => exact sim_now fun r hr => he _ _ hr
  case pick c a b =>
    split
    · rename_i hc
      have := he _ _ hc
      generalize e c = c' at this
      cases this
      exact sim_now fun r hr => he _ _ hr
    · rename_i hc
      have := he _ _ hc
      generalize e c = c' at this
      cases this
      exact sim_now fun r hr => he _ _ hr
    · exact sim_fail
  case alloc t => exact sim_avalA (sim_alloc hC t)
  case box t x => exact one fun a ha => sim_avalA (sim_box (he _ _ ha))
  case build t parts =>
    split
    · rename_i ps hps
      exact sim_aval fun r hr => abuild_run hC hr (by simpa using evps_rel he _ _ hps) w
    · exact sim_fail
  case buildSlice t n parts =>
    split
    · rename_i ps hps
      exact sim_avalA (sim_buildSlice hC (by simpa using evps_rel he _ _ hps))
    · exact sim_fail
  case load t x =>
    split
    · rename_i a ha
      obtain ⟨a', e1, hr⟩ := (he _ _ ha).ptr_some
      rw [e1]
      refine sim_avalA ?_
      exact sim_loadVar hC t hr
    · rename_i m cells d hx
      have hr := he _ _ hx
      generalize e x = x' at hr
      obtain ⟨a'', rfl, h⟩ := sim_fload (P := P) (C := C) (Pm := Pm) (s := s) (w := w) (t := t) hC hr
      exact sim_avalA (a := A.ofOption _) h
    · exact sim_fail
  case store t x y =>
    split
    · rename_i a v ha hv
      obtain ⟨a', e1, hr⟩ := (he _ _ ha).ptr_some
      rw [e1]
      refine sim_askip ?_
      exact sim_storeVar hC t hr (he _ _ hv)
    · exact sim_fail
  case nilCheck x =>
    refine one fun a ha => ?_
    have hr := he _ _ ha
    generalize e x = x' at hr
    unfold anilCheck
    cases hr with
    | ptr h => exact sim_now fun r hr => by cases hr; exact .ptr h
    | iface h => exact sim_now fun r hr => by cases hr; exact .iface h
    | func h1 h2 => exact sim_now fun r hr => by cases hr; exact .func h1 h2
    | fptr h1 h2 => exact sim_now fun r hr => by cases hr; exact .fptr h1 h2
    | _ => exact sim_aval_none
  case binOp op t x y yt =>
    exact two fun a b ha hb => sim_aval fun r hr => by
      obtain ⟨h1, h2⟩ := abin_run hC hr (he _ _ ha) (he _ _ hb) w
      exact ⟨r, h1, h2 ρ⟩
  case unOp op t x => exact one fun a ha => sim_aval fun r hr => ⟨r, aun_run hr (he _ _ ha) w⟩
  case convert src dst' x =>
    refine one fun a ha => ?_
    split
    · rename_i r hr0
      exact sim_aval fun r hr => by cases hr; exact ⟨_, aconv_run hC hr0 (he _ _ ha) w⟩
    · rename_i s0 _
      have hr := he _ _ ha
      generalize e x = x' at hr
      cases hr
      exact sim_avalA (sim_strBytes hC src dst' s0)
    · exact sim_fail
  case makeInterface t x => exact one fun a ha => sim_aval fun r hr => ⟨_, amkIface_run hC hr (he _ _ ha) w⟩
  case makeFunc fn first cap =>
    cases fn with
    | func f =>
      dsimp only
      split
      · rename_i a b ha hb
        refine sim_aval fun r hr => ?_
        cases hr
        exact ⟨_, rfl, .func (by simpa using evs_rel he _ _ ha) (by simpa using evs_rel he _ _ hb)⟩
      · exact sim_fail
    | _ => exact sim_fail
  case makeMap t r =>
    cases r with
    | none => exact sim_avalA (sim_makeMap t)
    | some _ => exact sim_fail
  case lookup xt x ix ok =>
    cases ok with
    | true => exact sim_fail
    | false => exact two fun a b ha hb => sim_avalA (sim_lookup hC (he _ _ ha) (he _ _ hb))
  case mapUpdate t m k x =>
    split
    · rename_i a b c ha hb hc
      exact sim_askip (sim_mapUpdate hC (he _ _ ha) (he _ _ hb) (he _ _ hc))
    · exact sim_fail
  case makeSlice t l c => exact two fun a b ha hb => sim_avalA (sim_makeSlice hC (he _ _ ha) (he _ _ hb))
  case slice t x lo hi mx =>
    split
    · rename_i a l h m ha hl hh hm
      exact sim_aval fun r hr => aslice_run hC hr (he _ _ ha) (evo_rel he hl) (evo_rel he hh) (evo_rel he hm) w
    · exact sim_fail
  case fieldAddr t x f => exact one fun a ha => sim_aval fun r hr => afieldAddr_run hC hr (he _ _ ha) w
  case field t x f => exact one fun a ha => sim_aval fun r hr => afield_run hC hr (he _ _ ha) w
  case indexAddr t x i => exact two fun a b ha hb => sim_aval fun r hr => aindexAddr_run hC hr (he _ _ ha) (he _ _ hb) w
  case index t x i => exact two fun a b ha hb => sim_aval fun r hr => aindex_run hC hr (he _ _ ha) (he _ _ hb) w
  case extract x i => exact one fun a ha => sim_aval fun r hr => aextract_run hr (he _ _ ha) w
  case typeAssert x xt t ok =>
    cases ok with
    | false => exact sim_fail
    | true => exact one fun a ha => sim_aval fun r hr => aassert_run hC hr (he _ _ ha) w
  case call c =>
    obtain ⟨callee, args, ts⟩ := c
    cases callee with
    | builtin b =>
      dsimp only
      split
      · rename_i l hl
        refine sim_congr (c' := builtin b ts ty (args.map fun | .const _ => true | _ => false) (args.map e)) ?_ (sim_builtin hC (by simpa using evs_rel he _ _ hl))
        rfl
      · exact sim_fail
    | invoke r m => exact sim_fail
    | value f =>
      dsimp only
      split
      · rename_i g first cap l hf hl
        have hr := he _ _ hf
        generalize hx : e f = x' at hr
        cases hr with
        | @func fn' f' first' c' cap' h1 h2 =>
          have hargs : VRels ρ (first.toList ++ l ++ cap.toList) (first' ++ args.map e ++ cap').toList := by
            have := (h1.append (evs_rel he _ _ hl)).append h2
            simpa using this
          have hrun : (do let d ← resolve e ⟨.value f, args, ts⟩ ty; invoke d.target d.args : Sem Next).run P w = (callFunc g (first' ++ args.map e ++ cap')).run P w := by
            unfold resolve
            dsimp only
            rw [hx]
            rfl
          refine sim_congr hrun ?_
          split
          · rename_i o' ho
            intro x s' hz hp
            obtain ⟨v, s1, hz1, hz2⟩ := A.bindRun_some (a := A.ofOption (o' (first.toList ++ l ++ cap.toList))) (f := fun v => pure (ANext.val v)) hz
            cases hv : o' (first.toList ++ l ++ cap.toList) with
            | none => rw [hv] at hz1; cases hz1
            | some r =>
              rw [hv] at hz1
              cases hz1
              cases hz2
              obtain ⟨r', hr', hrel⟩ := hC.ext _ _ _ _ ho hv ρ _ hargs w
              exact ⟨ρ, _, w, hr', Step.refl hp, .val hrel⟩
          · split
            · rename_i fn hfn
              split
              · rename_i body hbody
                refine sim_congr (c' := pure (.enter g (first' ++ args.map e ++ cap'))) ?_ (sim_pure (.enter hargs))
                unfold callFunc
                rw [Sem.run_bind]
                simp only [Go.program, Sem.run]
                rw [hC.fn _ _ hfn]
                have hn := hC.name _ _ hfn
                simp only [hn, Bool.false_eq_true, if_false, hbody, Option.isNone_some]
              · exact sim_fail
            · exact sim_fail
      · exact sim_fail
  case defer c =>
    obtain ⟨callee, args, ts⟩ := c
    cases callee with
    | builtin b => exact sim_fail
    | invoke r m => exact sim_fail
    | value f =>
      dsimp only
      split
      · rename_i g first cap l hf hl
        have hr := he _ _ hf
        generalize hx : e f = x' at hr
        cases hr with
        | @func fn' f' first' c' cap' h1 h2 =>
          refine sim_congr (c' := pure (.defer { target := .fn (.func g) cap', args := first' ++ args.map e })) ?_ (sim_pure (.defer ?_ h2))
          · unfold resolve
            dsimp only
            rw [hx]
            rfl
          · have := h1.append (evs_rel he _ _ hl)
            simpa using this
      · exact sim_fail
  all_goals exact sim_fail
end
end
end Go.Proofs.BhE
