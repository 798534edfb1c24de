/- A region, drawn or not. -/
import Derived.Test.YtchapnlmibngbaaGreatDoorEvR
set_option linter.all false
namespace Go.Proofs.BhE
open Go
noncomputable section

section
variable {P : Program} {C : Ctx} {call : FuncId → List Value → A AEnd} {nt : Nat} {d : List ADef} {H : Hist}
variable {Pm : Nat → Prop} {ρ0 : Rho} {w0 : World} {ops : Array Oper} {Q : Exit → Act → World → Prop}

/-- What holds when all is done is what a step tells. -/
theorem Inv.step {m : Nat} {D : Nat → Bool} {ρ : Rho} {a : Act} {w : World} {s0 s' : AS} (hI : Inv Pm ρ0 w0 nt ops.toList d H m D ρ a w) (h0 : H.S 0 = s0)
    (hval : ∀ i, valH H m D i = s'.h.get i) (hnew : ∀ i, s'.n ≤ i → s'.h.get i = none)
    (hint : ∀ k, k < m → D k = true → s0.n ≤ (H.R k).lo ∧ (H.R k).hi ≤ s'.n) : Step Pm ρ0 s0 w0 ρ s' w where
  rep := ⟨fun i o hi hg => hI.obj i o hi (by rw [hval]; exact hg), fun i j p q hi hj ⟨o, g, al⟩ ⟨o', g', al'⟩ hp hq e => hI.inj i j o o' p q hi hj (by rw [hval]; exact g) al (by rw [hval]; exact g') al' hp hq e, hI.fz, fun i p b ob hi ⟨o, g, al⟩ hp hb => hI.off i o p b ob hi (by rw [hval]; exact g) al hp hb⟩
  ext := hI.ext
  dom := fun i hi hc => hI.dom i hi fun k hk hD hb => by
    obtain ⟨h1, h2⟩ := hint k hk hD
    omega
  new := hnew
  dead := fun i hi ⟨o, g, al⟩ => by
    have := hI.dead i o (by rw [h0]; exact hi) (by rw [hval]; exact g) al
    rwa [h0] at this
  size := hI.wsize
  frame := fun b hb hne => hI.frame b hb fun i p hi hl => by rw [h0] at hl; exact hne i p hi hl
  newb := fun i p hi ⟨o, g, al⟩ hp => by
    have := hI.newb i o p hi (by rw [hval]; exact g) al hp
    rwa [h0] at this
  newz := fun b ob hb => by
    have := hI.newz b ob hb
    rwa [h0] at this
  os := hI.os
  tape := hI.tape
  output := hI.output

theorem draw_ok (hC : C.Ok P) (hcall : CallOk P call) {id : Nat} (hf : P.follows .mixedOrders = true) {ρ : Rho} {s s' : AS} {w : World} {x : AAct} {a : Act} {r : Option Value × AAct}
    (ha : ActRel ρ nt x a) (h : (adraw C call nt ops.toList ops.toList [] [] x).run s = some (r, s')) (hp : Pre Pm ρ s w s')
    (hQ : ∀ ρ' e' a' w', Step Pm ρ s w ρ' s' w' → OutRel ρ' nt r e' a' → Q e' a' w') : (Code.region id ops true).wp P Q a w := by
  refine wp_region_any hf ?_
  obtain ⟨xt, d⟩ := x
  let H0 : Hist := ⟨fun _ => xt, fun _ => s, fun _ => ⟨0, [], [], 0, 0⟩⟩
  obtain ⟨H, hsame, hres⟩ := adraw_hist (C := C) (call := call) (nt := nt) (all := ops.toList) (d := d) ops.toList 0 H0 [] [] rfl rfl rfl (fun i hi => by omega) (fun i hi => by omega) (fun k hk => by omega) r s' h
  obtain ⟨hX0, hS0⟩ := hsame 0 (Nat.le_refl _)
  have hX0 : H.X 0 = xt := hX0
  have hS0 : H.S 0 = s := hS0
  have hwf : ∀ i, (H.S 0).n ≤ i → (H.S 0).h.get i = none := by rw [hS0]; exact hp.new
  -- how it starts
  have hstart : ∀ n m, Going C call Pm ρ { w with drawn := w.drawn + 1 } nt ops d H n m (Array.replicate ops.size false) ρ a { w with drawn := w.drawn + 1 } := by
    intro n m
    have hfalse : ∀ k, (Array.replicate ops.size false).getD k false = false := by
      intro k
      rw [Array.getD_eq_getD_getElem?]
      rcases Nat.lt_or_ge k ops.size with h1 | h1
      · simp [h1]
      · simp [Nat.not_lt.2 h1]
    have hfun : (fun k => (Array.replicate ops.size false).getD k false) = fun _ => false := funext hfalse
    have hvH : ∀ i, valH H m (fun _ => false) i = s.h.get i := by
      intro i
      unfold valH
      rw [lastIx_eq_none (p := fun k => false && wH H k i) (fun k _ => rfl)]
      rw [hS0]
    have hvT : ∀ t, valT ops.toList H m (fun _ => false) t = xt.get t := by
      intro t
      unfold valT
      rw [lastIx_eq_none (p := fun k => false && wT ops.toList k t) (fun k _ => rfl)]
      rw [hX0]
    refine ⟨by simp, fun k _ => hfalse k, fun k _ hD => (by rw [hfalse k] at hD; cases hD), ?_⟩
    rw [hfun]
    refine ⟨ha.size, fun t v hv => ha.tmps t v (by rw [hvT] at hv; exact hv), ha.defers, ?_, ?_, Rho.ext.refl ρ, fun _ h _ => h, ?_, Nat.le_refl _, fun _ _ _ => rfl, ?_, hp.rep.fz, ?_, fun _ _ h => .inl h, rfl, rfl, rfl⟩
    · intro i o hi hg
      rw [hvH] at hg
      exact hp.rep.obj i o hi hg
    · intro i j o o' p q hi hj g al g' al' hp1 hq e
      rw [hvH] at g g'
      exact hp.rep.inj i j p q hi hj ⟨o, g, al⟩ ⟨o', g', al'⟩ hp1 hq e
    · intro i o hi g al
      rw [hvH] at g
      rw [hS0]
      exact ⟨o, g, al⟩
    · intro i o p hi g al hp1
      rw [hvH] at g
      rw [hS0]
      exact .inr ⟨i, p, hi, ⟨o, g, al⟩, hp1, rfl⟩
    · intro i o p b ob hi g al hp1 hb
      rw [hvH] at g
      exact hp.rep.off i p b ob hi ⟨o, g, al⟩ hp1 hb
  have hcnt : ∀ n, ops.size ≤ ops.size + cnt (fun k => (Array.replicate ops.size false).getD k false) n := fun n => Nat.le_add_right _ _
  have houter : ∀ m, H.S m = s' → Outer Pm ρ (H.S 0) (H.S m) := by
    intro m e
    rw [hS0, e]
    exact ⟨hp.fresh, hp.new, hp.low, hp.rd, hp.wr, hp.above⟩
  rcases hres with ⟨n, hn, hH, hr, hs⟩ | ⟨p, o, v, s1, hp0, hH, hop, hrun, hr, hs, hSp, hXp, hlo, hhi, hbits, hless, hrd, hwr, hclr, hidle, hrest⟩
  · have hn : n = ops.size := by simpa using hn
    refine region_go (n := n) (m := n) (Q := Q) hC hcall hH (houter n hs.symm) (Nat.le_refl _) ?_ ?_ _ _ ρ a _ (hcnt n) (hstart n n)
    · intro j hj
      obtain ⟨h1, _, h3, h4⟩ := hist_mono hH hj (Nat.le_refl n)
      exact ⟨h1, h3, h4⟩
    · refine .inl ⟨hn, rfl, ?_⟩
      intro D ρ' a' w' hall hI
      have hvH : ∀ i, valH H n D i = s'.h.get i := by
        intro i
        rw [hs, hist_S hH hwf (Nat.le_refl n) i]
        unfold valH
        rw [lastIx_cut (p := fun k => D k && wH H k i) (q := fun k => true && wH H k i) (Nat.le_refl n) (fun k hk => by rw [hall k hk]) (fun k h1 h2 => by omega)]
      have hvT : ∀ t, valT ops.toList H n D t = (H.X n).get t := by
        intro t
        rw [hist_X hH (Nat.le_refl n) t]
        unfold valT
        rw [lastIx_cut (p := fun k => D k && wT ops.toList k t) (q := fun k => true && wT ops.toList k t) (Nat.le_refl n) (fun k hk => by rw [hall k hk]) (fun k h1 h2 => by omega)]
      have st : Step Pm ρ s { w with drawn := w.drawn + 1 } ρ' s' w' := by
        refine hI.step hS0 hvH ?_ ?_
        · rw [hs]; exact hist_wf hH hwf (Nat.le_refl n)
        · intro k hk _
          obtain ⟨ok, vk, sk, ak⟩ := hH k hk
          rw [ak.lo, ak.hi, ← hS0, hs]
          refine ⟨(hist_mono hH (Nat.zero_le k) (Nat.le_of_lt hk)).1, ?_⟩
          have := (hist_mono hH (k := k + 1) (m := n) (by omega) (Nat.le_refl n)).1
          rwa [ak.next] at this
      refine hQ ρ' .normal a' w' ⟨st.rep, st.ext, st.dom, st.new, st.dead, st.size, st.frame, st.newb, st.newz, st.os, st.tape, st.output⟩ ?_
      rw [hr]
      exact .on ⟨hI.size, fun t u hu => hI.tmps t u (by rw [hvT]; exact hu), hI.defs⟩
  · have hop' : ops[p]? = some o := by simpa using hop
    have hpsz : p < ops.size := (Array.getElem?_eq_some_iff.1 hop').1
    have mono1 := A.mono _ _ _ _ hrun
    have hback : (H.S p).n ≤ s'.n := by rw [hs]; exact mono1.n
    have hstop : Stop C call ops d H p o v s1 := ⟨hop', hrun, hSp.trans hs, hXp, hlo, hhi, hbits, hless, hrd, hwr, hclr, hidle, hrest⟩
    refine region_go (n := p) (m := p + 1) (Q := Q) hC hcall hH (houter (p + 1) hSp) (Nat.le_succ _) ?_ ?_ _ _ ρ a _ (hcnt p) (hstart p (p + 1))
    · intro j hj
      by_cases e : j = p + 1
      · subst e; exact ⟨Nat.le_refl _, fun _ h => h, fun _ h => h⟩
      · obtain ⟨h1, _, h3, h4⟩ := hist_mono hH (k := j) (m := p) (by omega) (Nat.le_refl p)
        rw [hSp, hs]
        exact ⟨Nat.le_trans h1 mono1.n, fun i hi => mergeT_old _ _ _ i (h3 i hi), fun i hi => mergeT_old _ _ _ i (h4 i hi)⟩
    · refine .inr ⟨hpsz, rfl, o, v, s1, hstop, ?_⟩
      intro D ρ' a' w' v' hDp hD hI hv'
      have hvH : ∀ i, valH H (p + 1) D i = s'.h.get i := by
        intro i
        have e1 : valH H (p + 1) D i = valH H (p + 1) (fun _ => true) i := by
          unfold valH
          rw [lastIx_cut (p := fun k => D k && wH H k i) (q := fun k => true && wH H k i) (Nat.le_refl (p + 1)) ?_ (fun k h1 h2 => by omega)]
          intro k hk
          cases hd : D k with
          | true => rfl
          | false =>
            have hkp : k < p := by
              rcases Nat.lt_or_ge k p with h1 | h1
              · exact h1
              · have : k = p := by omega
                rw [this, hDp] at hd; cases hd
            have hm : (H.R p).mask.testBit k = false := by
              cases hb : (H.R p).mask.testBit k with
              | false => rfl
              | true => rw [hD k hb] at hd; cases hd
            obtain ⟨h1, h2⟩ := hidle k hkp hm
            cases hw : wH H k i with
            | false => rfl
            | true =>
              exfalso
              rcases wH_true hw with h3 | h3
              · rw [h1] at h3; cases h3
              · omega
        rw [e1]
        unfold valH
        simp only [Bool.true_and]
        unfold lastIx
        cases hw : wH H p i with
        | true => dsimp only; rw [hSp]
        | false =>
          have := hist_S hH hwf (Nat.le_refl p) i
          unfold valH at this
          simp only [Bool.true_and] at this
          dsimp only
          rw [← this]
          obtain ⟨h1, h2⟩ := wH_false hw
          rw [hwr] at h1
          rw [hlo, hhi] at h2
          rw [hs]
          show _ = s1.h.get i
          rcases Nat.lt_or_ge i (H.S p).n with h3 | h3
          · exact (mono1.keep i h3 h3 h1).symm
          · rw [hist_wf hH hwf (Nat.le_refl p) i h3]
            exact (mono1.wf (hist_wf hH hwf (Nat.le_refl p)) i (show s1.n ≤ i by omega)).symm
      have st : Step Pm ρ s { w with drawn := w.drawn + 1 } ρ' s' w' := by
        refine hI.step hS0 hvH ?_ ?_
        · rw [hs]; exact mono1.wf (hist_wf hH hwf (Nat.le_refl p))
        · intro k hk _
          by_cases e : k = p
          · subst e
            rw [hlo, hhi, ← hS0, hs]
            exact ⟨(hist_mono hH (Nat.zero_le k) (Nat.le_refl k)).1, Nat.le_refl _⟩
          · have hkp : k < p := by omega
            obtain ⟨ok, vk, sk, ak⟩ := hH k hkp
            rw [ak.lo, ak.hi, ← hS0]
            refine ⟨(hist_mono hH (Nat.zero_le k) (Nat.le_of_lt hkp)).1, ?_⟩
            have := (hist_mono hH (k := k + 1) (m := p) (by omega) (Nat.le_refl p)).1
            rw [ak.next] at this
            exact Nat.le_trans this hback
      refine hQ ρ' _ a' w' ⟨st.rep, st.ext, st.dom, st.new, st.dead, st.size, st.frame, st.newb, st.newz, st.os, st.tape, st.output⟩ ?_
      rw [hr]
      exact .panic ⟨hI.size, fun t u hu => (by rw [Tr.get_leaf] at hu; cases hu), hI.defs⟩ hv'

def aregion (C : Ctx) (call : FuncId → List Value → A AEnd) (nt : Nat) (l : List Oper) (drawn : Bool) (x : AAct) : A (Option Value × AAct) :=
  match drawn with
  | true => adraw C call nt l l [] [] x
  | false => aops C call nt l l x

theorem region_ok (hC : C.Ok P) (hcall : CallOk P call) {id : Nat} {drawn : Bool} (hf : P.follows .mixedOrders = true) {ρ : Rho} {s s' : AS} {w : World} {x : AAct} {a : Act} {r : Option Value × AAct}
    (ha : ActRel ρ nt x a) (h : (aregion C call nt ops.toList drawn x).run s = some (r, s')) (hp : Pre Pm ρ s w s')
    (hQ : ∀ ρ' e' a' w', Step Pm ρ s w ρ' s' w' → OutRel ρ' nt r e' a' → Q e' a' w') : (Code.region id ops drawn).wp P Q a w := by
  cases drawn with
  | true => exact draw_ok hC hcall hf ha h hp hQ
  | false =>
    refine wp_region ?_
    rw [List.range_eq_range']
    exact ops_ok hC hcall ops.size 0 (by omega) ha h hp hQ
end
end
end Go.Proofs.BhE
