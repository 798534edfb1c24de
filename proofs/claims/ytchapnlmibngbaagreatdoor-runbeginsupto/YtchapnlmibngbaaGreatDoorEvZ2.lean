/- A call: what it hands back is settled, what it made for itself is let go. -/
import Derived.Test.YtchapnlmibngbaaGreatDoorEvZ
set_option linter.all false
namespace Go.Proofs.BhE
open Go
noncomputable section

def objBelow (n : Nat) : AObj → Bool
  | .row _ cs => cs.all (below n 4)
  | .map es _ => (es.toList.map (·.key)).all (below n 4) && (es.toList.map (·.val)).all (below n 4)
  | .dead => true
theorem ObjOk.move {ρ1 ρ2 : Rho} {w : World} {i n : Nat} {o : AObj} (h : ObjOk ρ1 w i o) (hb : objBelow n o = true) (hi : i < n) (e : ∀ j, j < n → ρ2 j = ρ1 j) (ez : ∀ b o, ρ1.fz b = some o → ρ2.fz b = some o) : ObjOk ρ2 w i o := by
  cases o with
  | dead => trivial
  | row el cs =>
    obtain ⟨p, c, h1, h2, h3, h4, h5⟩ := h
    refine ⟨p, c, (e i hi).trans h1, h2, h3, h4, fun k v hk => ?_⟩
    obtain ⟨v', a, b⟩ := h5 k v hk
    have hv : below n 4 v = true := List.all_eq_true.1 hb v (List.mem_of_getElem? hk)
    exact ⟨v', a, b.move e ez (below_ids n 4 hv b)⟩
  | map es cl =>
    obtain ⟨p, es', h1, h2, h3, h4, h5⟩ := h
    simp only [objBelow, Bool.and_eq_true] at hb
    exact ⟨p, es', (e i hi).trans h1, h2, h3.move e ez (belows_ids hb.1 h3), h4.move e ez (belows_ids hb.2 h4), h5⟩

def restore (h h1 : Tr AObj) : List Nat → Tr AObj
  | [] => h
  | i :: l => match h1.get i with
    | some o => (restore h h1 l).set i o
    | none => restore h h1 l
theorem restore_get (h h1 : Tr AObj) (j : Nat) : ∀ l : List Nat, (∀ i ∈ l, ∃ o, h1.get i = some o) → (restore h h1 l).get j = if j ∈ l then h1.get j else h.get j := by
  intro l
  induction l with
  | nil => intro _; simp [restore]
  | cons i l ih =>
    intro hl
    obtain ⟨o, ho⟩ := hl i List.mem_cons_self
    have ih := ih fun k hk => hl k (List.mem_cons_of_mem _ hk)
    unfold restore
    rw [ho]
    dsimp only
    rw [Tr.get_set]
    by_cases e : j = i
    · subst e
      rw [if_pos rfl, if_pos List.mem_cons_self, ho]
    · rw [if_neg e, ih]
      by_cases hj : j ∈ l
      · rw [if_pos hj, if_pos (List.mem_cons_of_mem _ hj)]
      · rw [if_neg hj, if_neg]
        intro hc
        rcases List.mem_cons.1 hc with h2 | h2
        · exact e h2
        · exact hj h2

def AS.cut (s s1 : AS) : AS := match s, s1 with
  | ⟨h, n, thr, rd, wr⟩, ⟨h1, _, _, rd1, wr1⟩ => ⟨restore h h1 wr1, n, thr, mergeT thr rd1 rd, mergeT thr wr1 wr⟩
theorem AS.cut_eq (s s1 : AS) : s.cut s1 = ⟨restore s.h s1.h s1.wr, s.n, s.thr, mergeT s.thr s1.rd s.rd, mergeT s.thr s1.wr s.wr⟩ := rfl

def oBelow (n : Nat) : Option AObj → Bool
  | some o => objBelow n o
  | none => false
def endBelow (n : Nat) : AEnd → Bool
  | .returned v => below n 5 v
  | .panicked v => below n 5 v
def truncOk (args : List Value) (e : AEnd) (s s1 : AS) : Bool :=
  args.all (below s.n 4) && endBelow s.n e && s1.rd.all (fun i => oBelow s.n (s.h.get i)) && s1.wr.all (fun i => oBelow s.n (s.h.get i) && oBelow s.n (s1.h.get i))

def afin (args : List Value) (m : A AEnd) : A AEnd :=
  ⟨fun s => match m.run s.iso with
    | none => none
    | some (e, s1) => match truncOk args e s s1 with
      | true => some (e, s.cut s1)
      | false => some (e, s.back s1),
   fun s x s2 h => by
    revert h
    split
    · intro h; cases h
    · rename_i e s1 hr
      have m0 := m.mono _ _ _ hr
      split
      · rename_i hok
        intro h
        cases h
        simp only [truncOk, Bool.and_eq_true] at hok
        have hget : ∀ i ∈ s1.wr, ∃ o, s1.h.get i = some o := by
          intro i hi
          have := List.all_eq_true.1 hok.2 i hi
          simp only [Bool.and_eq_true] at this
          cases hg : s1.h.get i with
          | none => rw [hg] at this; cases this.2
          | some o => exact ⟨o, rfl⟩
        rw [AS.cut_eq]
        refine ⟨Nat.le_refl _, rfl, fun i hi => mergeT_old _ _ _ i hi, fun i hi => mergeT_old _ _ _ i hi, ?_, fun h => mergeT_small _ _ _ h, fun h => mergeT_small _ _ _ h, ?_⟩
        · intro i hn ht hw
          show (restore s.h s1.h s1.wr).get i = _
          rw [restore_get _ _ _ _ hget, if_neg]
          intro hi
          exact hw (mergeT_new _ _ _ i hi ht)
        · intro hwf i hi
          show (restore s.h s1.h s1.wr).get i = _
          have hi : s.n ≤ i := hi
          rw [restore_get _ _ _ _ hget, if_neg]
          · exact hwf i hi
          · intro hw
            have := m0.smallw (by intro j hj; cases hj) i hw
            have : i < s.n := this
            omega
      · intro h
        cases h
        refine ⟨m0.n, rfl, fun i hi => mergeT_old _ _ _ i hi, fun i hi => mergeT_old _ _ _ i hi, ?_, fun h => mergeT_small _ _ _ h, fun h => mergeT_small _ _ _ h, fun h => m0.wf h⟩
        intro i hn ht hw
        exact m0.keep i hn hn fun h => hw (mergeT_new _ _ _ i h ht)⟩

section
variable {P : Program} {Pm : Nat → Prop} {ρ : Rho} {s : AS} {w : World}

theorem cut_ok {f : FuncId} {args : List Value} {args' : Array Value} {m : A AEnd} (hm : ∀ Pm ρ s w, VRels ρ args args'.toList → SimCall P Pm ρ s w m f args') (hargs : VRels ρ args args'.toList)
    {x : AEnd} {s1 : AS} (hrun : m.run s.iso = some (x, s1)) (hok : truncOk args x s s1 = true) (hp : Pre Pm ρ s w (s.cut s1)) :
    Calls P f args' w fun e w' => ∃ ρ', Step Pm ρ s w ρ' (s.cut s1) w' ∧ EndRel ρ' x e := by
  simp only [truncOk, Bool.and_eq_true] at hok
  obtain ⟨⟨⟨k1, k2⟩, k3⟩, k4⟩ := hok
  have mono : s.iso.le s1 := m.mono _ _ _ hrun
  have hn1 : s.n ≤ s1.n := mono.n
  have rdlt : ∀ i ∈ s1.rd, i < s.n := mono.small (by intro i hi; cases hi)
  have wrlt : ∀ i ∈ s1.wr, i < s.n := mono.smallw (by intro i hi; cases hi)
  have oldOk : ∀ i, i ∈ s1.rd ∨ i ∈ s1.wr → ∀ o, s.h.get i = some o → objBelow s.n o = true := by
    rintro i (hi | hi) o ho
    · have := List.all_eq_true.1 k3 i hi
      rw [ho] at this
      exact this
    · have := List.all_eq_true.1 k4 i hi
      simp only [Bool.and_eq_true] at this
      rw [ho] at this
      exact this.1
  have newOk : ∀ i ∈ s1.wr, ∃ o, s1.h.get i = some o ∧ objBelow s.n o = true := by
    intro i hi
    have := List.all_eq_true.1 k4 i hi
    simp only [Bool.and_eq_true] at this
    cases hg : s1.h.get i with
    | none => rw [hg] at this; cases this.2
    | some o => rw [hg] at this; exact ⟨o, rfl, this.2⟩
  have hget : ∀ i ∈ s1.wr, ∃ o, s1.h.get i = some o := fun i hi => let ⟨o, h, _⟩ := newOk i hi; ⟨o, h⟩
  let Pm' : Nat → Prop := fun i => i ∈ s1.rd ∨ i ∈ s1.wr ∨ (s.n ≤ i ∧ i < s1.n)
  let ρh : Rho := ⟨fun i => if s.n ≤ i ∧ i < s1.n then none else ρ i, ρ.fz⟩
  have ρh_lo : ∀ i, i < s.n → ρh i = ρ i := fun i hi => if_neg (by omega)
  have ρh_some : ∀ i p, ρh i = some p → ρ i = some p := by
    intro i p h
    have h : (if s.n ≤ i ∧ i < s1.n then none else ρ i) = some p := h
    split at h
    · cases h
    · exact h
  have held : ∀ i, i ∈ s1.rd ∨ i ∈ s1.wr → Pm i := by
    intro i hi
    have hlt : i < s.n := by rcases hi with h | h; exact rdlt i h; exact wrlt i h
    rcases Nat.lt_or_ge i s.thr with h1 | h1
    · rcases hi with h2 | h2
      · exact hp.rd i (mergeT_new _ _ _ i h2 h1)
      · exact hp.wr i (mergeT_new _ _ _ i h2 h1)
    · exact hp.above i h1 hlt
  have heldP : ∀ i, Pm' i → i < s.n → Pm i := by
    rintro i (h | h | h) hlt
    · exact held i (.inl h)
    · exact held i (.inr h)
    · omega
  have lt_of : ∀ i o, s.h.get i = some o → i < s.n := by
    intro i o hg
    rcases Nat.lt_or_ge i s.n with h1 | h1
    · exact h1
    · rw [hp.new i h1] at hg; cases hg
  have touched : ∀ i, Pm' i → i < s.n → i ∈ s1.rd ∨ i ∈ s1.wr := by
    rintro i (h | h | h) hlt
    · exact .inl h
    · exact .inr h
    · omega
  have hpre : Pre Pm' ρh s.iso w s1 := by
    refine ⟨⟨?_, ?_, hp.rep.fz, ?_⟩, Nat.le_refl _, ?_, hp.new, fun i hi => .inl hi, fun i hi => .inr (.inl hi), fun i h1 h2 => .inr (.inr ⟨h1, h2⟩)⟩
    · intro i o hi hg
      have hg : s.h.get i = some o := hg
      have hlt := lt_of i o hg
      exact (hp.rep.obj i o (heldP i hi hlt) hg).move (oldOk i (touched i hi hlt) o hg) hlt (fun j hj => ρh_lo j hj) (fun _ _ h => h)
    · intro i j p q hi hj li lj hpi hq e
      obtain ⟨oi, gi, ai⟩ := li
      obtain ⟨oj, gj, aj⟩ := lj
      exact hp.rep.inj i j p q (heldP i hi (lt_of i oi gi)) (heldP j hj (lt_of j oj gj)) ⟨oi, gi, ai⟩ ⟨oj, gj, aj⟩ (ρh_some _ _ hpi) (ρh_some _ _ hq) e
    · intro i p b o hi li hpi hb
      obtain ⟨oi, gi, ai⟩ := li
      exact hp.rep.off i p b o (heldP i hi (lt_of i oi gi)) ⟨oi, gi, ai⟩ (ρh_some _ _ hpi) hb
    · intro i h1 h2
      exact if_pos ⟨h1, h2⟩
  have hargs' : VRels ρh args args'.toList := hargs.move (fun j hj => ρh_lo j hj) (fun _ _ h => h) (belows_ids k1 hargs)
  refine (hm Pm' ρh s.iso w hargs' x s1 hrun hpre).mono ?_
  rintro e w' ⟨ρ1, st, her⟩
  let ρ2 : Rho := ⟨fun i => if s.n ≤ i ∧ i < s1.n then ρ i else ρ1 i, ρ1.fz⟩
  have ρ2lo : ∀ i, i < s.n → ρ2 i = ρ1 i := fun i hi => if_neg (by omega)
  have hext : Rho.ext ρ ρ2 := by
    refine ⟨fun i p h => ?_, fun b o h => st.ext.fz b o h⟩
    show (if s.n ≤ i ∧ i < s1.n then ρ i else ρ1 i) = some p
    split
    · exact h
    · rename_i hc
      exact st.ext.at_ i p (by show (if s.n ≤ i ∧ i < s1.n then none else ρ i) = some p; rw [if_neg hc]; exact h)
  have hh2 : ∀ i, (s.cut s1).h.get i = if i ∈ s1.wr then s1.h.get i else s.h.get i := by
    intro i
    rw [AS.cut_eq]
    exact restore_get _ _ _ _ hget
  -- an object that the call does not touch lies in a block of its own
  have apart_block : ∀ i o' p, Pm i → s.h.get i = some o' → o'.alive → ¬ Pm' i → ρ i = some p → ∀ k q, Pm' k → s.iso.live k → ρh k = some q → q.block ≠ p.block := by
    intro i o' p hi hg hal hnl hpi k q hk lk hq e
    obtain ⟨ok, gk, ak⟩ := lk
    have := hp.rep.inj k i q p (heldP k hk (lt_of k ok gk)) hi ⟨ok, gk, ak⟩ ⟨o', hg, hal⟩ (ρh_some _ _ hq) hpi e
    subst this
    exact hnl hk
  have kinds : ∀ i o', (s.cut s1).h.get i = some o' → i < s.n ∧ ((Pm' i ∧ s1.h.get i = some o' ∧ objBelow s.n o' = true) ∨ (¬ Pm' i ∧ s.h.get i = some o')) := by
    intro i o' hg
    rw [hh2] at hg
    split at hg
    · rename_i hw
      obtain ⟨o2, h1, h2⟩ := newOk i hw
      rw [h1] at hg
      cases hg
      exact ⟨wrlt i hw, .inl ⟨.inr (.inl hw), h1, h2⟩⟩
    · rename_i hw
      have hlt := lt_of i o' hg
      refine ⟨hlt, ?_⟩
      by_cases hP : Pm' i
      · refine .inl ⟨hP, ?_, oldOk i (touched i hP hlt) o' hg⟩
        rw [mono.keep i hlt hlt hw]
        exact hg
      · exact .inr ⟨hP, hg⟩
  have old_at : ∀ i o' p, Pm i → s.h.get i = some o' → o'.alive → ρ2 i = some p → ρ i = some p ∧ p.block < w.heap.size := by
    intro i o' p hi hg hal hp2
    obtain ⟨p', hp', hlt⟩ := ObjOk.has (hp.rep.obj i o' hi hg) hal
    have := hext.at_ i p' hp'
    rw [hp2] at this
    cases this
    exact ⟨hp', hlt⟩
  have live_old : ∀ i, Pm' i → s.iso.live i → i < s.n ∧ Pm i ∧ s.live i := by
    rintro i hi ⟨o, g, a⟩
    have hlt := lt_of i o g
    exact ⟨hlt, heldP i hi hlt, ⟨o, g, a⟩⟩
  have mixed : ∀ i k o1 o2 p q, Pm k → Pm' i → i < s.n → s1.h.get i = some o1 → o1.alive → ¬ Pm' k → s.h.get k = some o2 → o2.alive → ρ2 i = some p → ρ2 k = some q → p.block ≠ q.block := by
    intro i k o1 o2 p q hk hl hlt hg ha hnl hg2 ha2 hp1 hq e
    obtain ⟨hq', hlt2⟩ := old_at k o2 q hk hg2 ha2 hq
    rw [ρ2lo i hlt] at hp1
    rcases st.newb i p hl ⟨o1, hg, ha⟩ hp1 with h1 | ⟨i2, q2, hl2, hlive2, hq2, e2⟩
    · omega
    · exact apart_block k o2 q hk hg2 ha2 hnl hq' i2 q2 hl2 hlive2 hq2 (e2.trans e)
  refine ⟨ρ2, ?_, ?_⟩
  · constructor
    · constructor
      · intro i o' hi hg
        obtain ⟨hlt, ⟨hP, hg', hb⟩ | ⟨hP, hg'⟩⟩ := kinds i o' hg
        · exact (st.rep.obj i o' hP hg').move hb hlt (fun j hj => ρ2lo j hj) (fun _ _ h => h)
        · refine ((hp.rep.obj i o' hi hg').other fun p hal hpi => ?_).ext hext
          obtain ⟨p', hp', hl'⟩ := ObjOk.has (hp.rep.obj i o' hi hg') hal
          rw [hpi] at hp'
          cases hp'
          exact st.frame p.block hl' fun k q hk lk hq => apart_block i o' p hi hg' hal hP hpi k q hk lk hq
      · intro i k p q hi hk li lk hp1 hq e
        obtain ⟨o1, g1, a1⟩ := li
        obtain ⟨o2, g2, a2⟩ := lk
        obtain ⟨hlt1, ⟨hl1, hg1, _⟩ | ⟨hl1, hg1⟩⟩ := kinds i o1 g1
        · obtain ⟨hlt2, ⟨hl2, hg2, _⟩ | ⟨hl2, hg2⟩⟩ := kinds k o2 g2
          · rw [ρ2lo i hlt1] at hp1
            rw [ρ2lo k hlt2] at hq
            exact st.rep.inj i k p q hl1 hl2 ⟨o1, hg1, a1⟩ ⟨o2, hg2, a2⟩ hp1 hq e
          · exact absurd e (mixed i k o1 o2 p q hk hl1 hlt1 hg1 a1 hl2 hg2 a2 hp1 hq)
        · obtain ⟨hlt2, ⟨hl2, hg2, _⟩ | ⟨hl2, hg2⟩⟩ := kinds k o2 g2
          · exact absurd e.symm (mixed k i o2 o1 q p hi hl2 hlt2 hg2 a2 hl1 hg1 a1 hq hp1)
          · exact hp.rep.inj i k p q hi hk ⟨o1, hg1, a1⟩ ⟨o2, hg2, a2⟩ (old_at i o1 p hi hg1 a1 hp1).1 (old_at k o2 q hk hg2 a2 hq).1 e
      · exact st.rep.fz
      · intro i p b ob hi li hpi hb e
        obtain ⟨o1, g1, a1⟩ := li
        obtain ⟨hlt1, ⟨hl1, hg1, _⟩ | ⟨hl1, hg1⟩⟩ := kinds i o1 g1
        · rw [ρ2lo i hlt1] at hpi
          exact st.rep.off i p b ob hl1 ⟨o1, hg1, a1⟩ hpi hb e
        · obtain ⟨hp0, hlt⟩ := old_at i o1 p hi hg1 a1 hpi
          rcases st.newz b ob hb with h1 | h1 | ⟨k, q, h1, h2, h3, h4⟩
          · exact hp.rep.off i p b ob hi ⟨o1, hg1, a1⟩ hp0 h1 e
          · omega
          · exact apart_block i o1 p hi hg1 a1 hl1 hp0 k q h1 h2 h3 (h4.trans e.symm)
    · exact hext
    · intro i hi hc
      have hc : i < s.n ∨ s.n ≤ i := by omega
      show (if s.n ≤ i ∧ i < s1.n then ρ i else ρ1 i) = none
      split
      · exact hi
      · rename_i hnc
        refine st.dom i (by show (if s.n ≤ i ∧ i < s1.n then none else ρ i) = none; rw [if_neg hnc]; exact hi) ?_
        show i < s.n ∨ s1.n ≤ i
        omega
    · intro i hi
      have hi : s.n ≤ i := hi
      rw [hh2, if_neg]
      · exact hp.new i hi
      · intro hw; have := wrlt i hw; omega
    · rintro i hi ⟨o1, g1, a1⟩
      obtain ⟨hlt1, ⟨hl1, hg1, _⟩ | ⟨hl1, hg1⟩⟩ := kinds i o1 g1
      · exact (live_old i hl1 (st.dead i hlt1 ⟨o1, hg1, a1⟩)).2.2
      · exact ⟨o1, hg1, a1⟩
    · exact st.size
    · intro b hb hne
      refine st.frame b hb fun i p hi li hpi => ?_
      obtain ⟨hlt, hP, hl⟩ := live_old i hi li
      exact hne i p hP hl (ρh_some _ _ hpi)
    · rintro i p hi ⟨o1, g1, a1⟩ hpi
      obtain ⟨hlt1, ⟨hl1, hg1, _⟩ | ⟨hl1, hg1⟩⟩ := kinds i o1 g1
      · rw [ρ2lo i hlt1] at hpi
        rcases st.newb i p hl1 ⟨o1, hg1, a1⟩ hpi with h1 | ⟨k, q, h1, h2, h3, h4⟩
        · exact .inl h1
        · obtain ⟨_, hP, hl⟩ := live_old k h1 h2
          exact .inr ⟨k, q, hP, hl, ρh_some _ _ h3, h4⟩
      · exact .inr ⟨i, p, hi, ⟨o1, hg1, a1⟩, (old_at i o1 p hi hg1 a1 hpi).1, rfl⟩
    · intro b o hb
      rcases st.newz b o hb with h1 | h1 | ⟨k, q, h1, h2, h3, h4⟩
      · exact .inl h1
      · exact .inr (.inl h1)
      · obtain ⟨_, hP, hl⟩ := live_old k h1 h2
        exact .inr (.inr ⟨k, q, hP, hl, ρh_some _ _ h3, h4⟩)
    · exact st.os
    · exact st.tape
    · exact st.output
  · cases her with
    | returned hv => exact .returned (hv.move (fun j hj => ρ2lo j hj) (fun _ _ h => h) (below_ids s.n 5 k2 hv))
    | panicked hv => exact .panicked (hv.move (fun j hj => ρ2lo j hj) (fun _ _ h => h) (below_ids s.n 5 k2 hv))

theorem fin_ok {f : FuncId} {args : List Value} {args' : Array Value} {m : A AEnd} (hm : ∀ Pm ρ s w, VRels ρ args args'.toList → SimCall P Pm ρ s w m f args') (hargs : VRels ρ args args'.toList) : SimCall P Pm ρ s w (afin args m) f args' := by
  intro x s' hx hp
  unfold afin at hx
  dsimp only at hx
  split at hx
  · cases hx
  rename_i e s1 hrun
  split at hx
  · rename_i hok
    cases hx
    exact cut_ok hm hargs hrun hok hp
  · cases hx
    have mono : s.iso.le s1 := m.mono _ _ _ hrun
    have hpre : Pre Pm ρ s.iso w s1 := by
      refine ⟨⟨hp.rep.obj, hp.rep.inj, hp.rep.fz, hp.rep.off⟩, Nat.le_refl _, hp.fresh, hp.new, ?_, ?_, ?_⟩
      · intro i hi
        have hlt : i < s.n := mono.small (by intro i hi; cases hi) i hi
        rcases Nat.lt_or_ge i s.thr with h1 | h1
        · exact hp.rd i (mergeT_new _ _ _ i hi h1)
        · exact hp.above i h1 (Nat.lt_of_lt_of_le hlt mono.n)
      · intro i hi
        have hlt : i < s.n := mono.smallw (by intro i hi; cases hi) i hi
        rcases Nat.lt_or_ge i s.thr with h1 | h1
        · exact hp.wr i (mergeT_new _ _ _ i hi h1)
        · exact hp.above i h1 (Nat.lt_of_lt_of_le hlt mono.n)
      · intro i h1 h2
        have h1 : s.n ≤ i := h1
        exact hp.above i (Nat.le_trans hp.low h1) h2
    refine (hm Pm ρ s.iso w hargs x s1 hrun hpre).mono ?_
    rintro e w' ⟨ρ1, st, her⟩
    exact ⟨ρ1, ⟨⟨st.rep.obj, st.rep.inj, st.rep.fz, st.rep.off⟩, st.ext, st.dom, st.new, st.dead, st.size, st.frame, st.newb, st.newz, st.os, st.tape, st.output⟩, her⟩

/-- What is handed back, settled. -/
def asettleEnd (C : Ctx) (f : FuncId) (m : A AEnd) : A AEnd := do
  let e ← m
  match e with
  | .returned v => match C.frz f with
    | true => do
      let v' ← asettleV C 5 v
      pure (.returned v')
    | false => pure (.returned v)
  | .panicked v => pure (.panicked v)
theorem settleEnd_ok {C : Ctx} {f : FuncId} {args' : Array Value} {m : A AEnd} (hm : SimCall P Pm ρ s w m f args') : SimCall P Pm ρ s w (asettleEnd C f m) f args' := by
  intro x s' hx hp
  unfold asettleEnd at hx
  obtain ⟨e, s1, h1, h2⟩ := A.bindRun_some hx
  have m2 : s1.le s' := A.mono _ _ _ _ h2
  refine (hm e s1 h1 (hp.first m2)).mono ?_
  rintro e' w' ⟨ρ1, st, her⟩
  have hp1 := hp.next (A.mono _ _ _ _ h1) st
  cases her with
  | returned hv =>
    dsimp only at h2
    split at h2
    · obtain ⟨v', s2, h3, h4⟩ := A.bindRun_some h2
      cases h4
      obtain ⟨ρ2, st2, hv2⟩ := rest_settleV C 5 hv v' s' h3 hp1
      exact ⟨ρ2, st.trans st2 (A.mono _ _ _ _ h1).n (A.mono _ _ _ _ h3).n, .returned hv2⟩
    · cases h2
      exact ⟨ρ1, st, .returned hv⟩
  | panicked hv =>
    cases h2
    exact ⟨ρ1, st, .panicked hv⟩
end
end
end Go.Proofs.BhE
