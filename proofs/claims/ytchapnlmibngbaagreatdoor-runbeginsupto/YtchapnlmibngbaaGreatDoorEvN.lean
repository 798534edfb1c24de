/- A region whose order is drawn comes to the same in every order. -/
import Derived.Test.YtchapnlmibngbaaGreatDoorEvM
set_option linter.all false
namespace Go.Proofs.BhE
open Go
noncomputable section

/-! ### 1. The last one of some -/
def lastIx (p : Nat → Bool) : Nat → Option Nat
  | 0 => none
  | k + 1 => match p k with
    | true => some k
    | false => lastIx p k
theorem lastIx_some {p : Nat → Bool} : ∀ {n k : Nat}, lastIx p n = some k → k < n ∧ p k = true ∧ ∀ m, k < m → m < n → p m = false
  | 0, k, h => by cases h
  | n + 1, k, h => by
    unfold lastIx at h
    split at h
    · rename_i hp; cases h; exact ⟨Nat.lt_succ_self _, hp, fun m h1 h2 => by omega⟩
    · rename_i hp
      obtain ⟨h1, h2, h3⟩ := lastIx_some h
      refine ⟨by omega, h2, fun m h4 h5 => ?_⟩
      by_cases e : m = n
      · subst e; exact hp
      · exact h3 m h4 (by omega)
theorem lastIx_none {p : Nat → Bool} : ∀ {n : Nat}, lastIx p n = none → ∀ m, m < n → p m = false
  | 0, _, m, h => by omega
  | n + 1, h, m, hm => by
    unfold lastIx at h
    split at h
    · cases h
    · rename_i hp
      by_cases e : m = n
      · subst e; exact hp
      · exact lastIx_none h m (by omega)
theorem lastIx_eq {p : Nat → Bool} {n k : Nat} (h1 : k < n) (h2 : p k = true) (h3 : ∀ m, k < m → m < n → p m = false) : lastIx p n = some k := by
  cases h : lastIx p n with
  | none => rw [lastIx_none h k h1] at h2; cases h2
  | some j =>
    obtain ⟨a, b, c⟩ := lastIx_some h
    rcases Nat.lt_trichotomy j k with h4 | h4 | h4
    · rw [c k h4 h1] at h2; cases h2
    · rw [h4]
    · rw [h3 j h4 a] at b; cases b
theorem lastIx_eq_none {p : Nat → Bool} {n : Nat} (h : ∀ m, m < n → p m = false) : lastIx p n = none := by
  cases e : lastIx p n with
  | none => rfl
  | some j => obtain ⟨a, b, _⟩ := lastIx_some e; rw [h j a] at b; cases b
/-- The same up to j, none behind it. -/
theorem lastIx_cut {p q : Nat → Bool} {j n : Nat} (hj : j ≤ n) (h1 : ∀ k, k < j → p k = q k) (h2 : ∀ k, j ≤ k → k < n → q k = false) : lastIx p j = lastIx q n := by
  cases h : lastIx q n with
  | none => exact lastIx_eq_none fun m hm => by rw [h1 m hm]; exact lastIx_none h m (by omega)
  | some k =>
    obtain ⟨a, b, c⟩ := lastIx_some h
    have : k < j := by
      rcases Nat.lt_or_ge k j with h3 | h3
      · exact h3
      · rw [h2 k h3 a] at b; cases b
    exact lastIx_eq this (by rw [h1 k this]; exact b) fun m h3 h4 => by rw [h1 m h4]; exact c m h3 (by omega)

/-! ### 2. How the region went in the text's order -/
structure Hist where
  X : Nat → Tr Value
  S : Nat → AS
  R : Nat → Rec

section
variable (C : Ctx) (call : FuncId → List Value → A AEnd) (nt : Nat) (all : List Oper) (d : List ADef)

structure At (H : Hist) (k : Nat) (o : Oper) (v : Value) (s' : AS) : Prop where
  op : all[k]? = some o
  run : (aeff C call all ⟨H.X k, d⟩ o).run (H.S k).iso = some (.put v, s')
  put : aput nt ⟨H.X k, d⟩ o.dst v = some ⟨H.X (k + 1), d⟩
  rd : (H.R k).rd = s'.rd
  wr : (H.R k).wr = s'.wr
  lo : (H.R k).lo = (H.S k).n
  hi : (H.R k).hi = s'.n
  next : H.S (k + 1) = (H.S k).back s'
  bits : ∀ b, (H.R k).mask.testBit b = true → ∃ e ∈ o.after.toList, Region.binds .any e = true ∧ (b = e.on ∨ (e.on < k ∧ (H.R e.on).mask.testBit b = true))
  less : ∀ e ∈ o.after.toList, Region.binds .any e = true → e.on < k
  clear : ∀ i x, i < k → all[i]? = some x → (H.R k).mask.testBit i = false → Clear all x o (H.R i) (H.R k)

def HistOk (H : Hist) (n : Nat) : Prop := ∀ k, k < n → ∃ o v s', At C call nt all d H k o v s'
end

/-- A history that goes on by one. -/
def Hist.snoc (H : Hist) (k : Nat) (x : Tr Value) (s : AS) (r : Rec) : Hist :=
  ⟨fun i => if i ≤ k then H.X i else x, fun i => if i ≤ k then H.S i else s, fun i => if i < k then H.R i else r⟩

section
variable {C : Ctx} {call : FuncId → List Value → A AEnd} {nt : Nat} {all : List Oper} {d : List ADef}

theorem At.snoc {H : Hist} {k j : Nat} {o : Oper} {v : Value} {s' : AS} {x : Tr Value} {s : AS} {r : Rec} (h : At C call nt all d H j o v s') (hj : j < k) : At C call nt all d (H.snoc k x s r) j o v s' := by
  have e1 : (H.snoc k x s r).X j = H.X j := by simp [Hist.snoc, Nat.le_of_lt hj]
  have e2 : (H.snoc k x s r).X (j + 1) = H.X (j + 1) := by simp only [Hist.snoc]; rw [if_pos (by omega)]
  have e3 : (H.snoc k x s r).S j = H.S j := by simp [Hist.snoc, Nat.le_of_lt hj]
  have e4 : (H.snoc k x s r).S (j + 1) = H.S (j + 1) := by simp only [Hist.snoc]; rw [if_pos (by omega)]
  have e5 : ∀ i, i < k → (H.snoc k x s r).R i = H.R i := fun i hi => by simp [Hist.snoc, hi]
  refine ⟨h.op, by rw [e1, e3]; exact h.run, by rw [e1, e2]; exact h.put, by rw [e5 j hj]; exact h.rd, by rw [e5 j hj]; exact h.wr, by rw [e5 j hj, e3]; exact h.lo, by rw [e5 j hj]; exact h.hi,
    by rw [e4, e3]; exact h.next, ?_, h.less, ?_⟩
  · intro b hb
    rw [e5 j hj] at hb
    obtain ⟨e, h1, h2, h3⟩ := h.bits b hb
    refine ⟨e, h1, h2, ?_⟩
    rcases h3 with h3 | ⟨h3, h4⟩
    · exact .inl h3
    · exact .inr ⟨h3, by rw [e5 _ (by omega)]; exact h4⟩
  · intro i y hi hy hm
    rw [e5 j hj] at hm ⊢
    rw [e5 i (by omega)]
    exact h.clear i y hi hy hm

/-- What is left of a region, gone through: all goes on, or one panics. -/
theorem adraw_hist : ∀ (rest : List Oper) (k : Nat) (H : Hist) (bs : List Nat) (recs : List Rec), all.drop k = rest → bs.length = k → recs.length = k →
    (∀ i, i < k → bs[i]? = some (H.R i).mask) → (∀ i, i < k → recs[i]? = some (H.R i)) → HistOk C call nt all d H k →
    ∀ (r : Option Value × AAct) (s' : AS), (adraw C call nt all rest bs recs ⟨H.X k, d⟩).run (H.S k) = some (r, s') →
    ∃ H' : Hist, (∀ i, i ≤ k → H'.X i = H.X i ∧ H'.S i = H.S i) ∧
      ((∃ n, n = k + rest.length ∧ HistOk C call nt all d H' n ∧ r = (none, ⟨H'.X n, d⟩) ∧ s' = H'.S n) ∨
       (∃ p o v s1, k ≤ p ∧ HistOk C call nt all d H' p ∧ all[p]? = some o ∧ (aeff C call all ⟨H'.X p, d⟩ o).run (H'.S p).iso = some (.panic v, s1) ∧ r = (some v, ⟨.leaf, d⟩) ∧ s' = (H'.S p).back s1 ∧ H'.S (p + 1) = s' ∧ H'.X (p + 1) = .leaf ∧ (H'.R p).lo = (H'.S p).n ∧ (H'.R p).hi = s1.n ∧
         (∀ b, (H'.R p).mask.testBit b = true → ∃ e ∈ o.after.toList, Region.binds .any e = true ∧ (b = e.on ∨ (e.on < p ∧ (H'.R e.on).mask.testBit b = true))) ∧
         (∀ e ∈ o.after.toList, Region.binds .any e = true → e.on < p) ∧
         (H'.R p).rd = s1.rd ∧ (H'.R p).wr = s1.wr ∧
         (∀ i x, i < p → all[i]? = some x → (H'.R p).mask.testBit i = false → Clear all x o (H'.R i) (H'.R p)) ∧
         (∀ i, i < p → (H'.R p).mask.testBit i = false → (H'.R i).wr = [] ∧ (H'.R i).lo = (H'.R i).hi) ∧
         (∃ bs', bs'.length = p + 1 ∧ (∀ i, i < p + 1 → bs'[i]? = some (H'.R i).mask) ∧ restAfter p bs' (all.drop (p + 1)) = true))) := by
  intro rest
  induction rest with
  | nil =>
    intro k H bs recs hd hb hr hbs hrecs hH r s' h
    cases h
    exact ⟨H, fun i _ => ⟨rfl, rfl⟩, .inl ⟨k, rfl, hH, rfl, rfl⟩⟩
  | cons o rest ih =>
    intro k H bs recs hd hb hr hbs hrecs hH r s' h
    have hop : all[k]? = some o := by
      have := congrArg (·[0]?) hd
      simpa using this
    have hd' : all.drop (k + 1) = rest := by
      have := congrArg (List.drop 1) hd
      simpa [List.drop_drop, Nat.add_comm] using this
    unfold adraw at h
    obtain ⟨⟨y, q⟩, s1, h1, h2⟩ := A.bindRun_some h
    obtain ⟨s0, hrun, hq, hs1⟩ := isolate_run h1
    dsimp only at h2
    split at h2
    · cases h2
    rename_i hchk
    rw [Bool.and_eq_true] at hchk
    obtain ⟨hless, hclear⟩ := hchk
    have hless' : ∀ e ∈ o.after.toList, Region.binds .any e = true → e.on < k := by
      have := edgesLt_spec hless
      rw [hb] at this
      exact this
    have hbits : ∀ b, (emask bs o.after.toList).testBit b = true → ∃ e ∈ o.after.toList, Region.binds .any e = true ∧ (b = e.on ∨ (e.on < k ∧ (H.R e.on).mask.testBit b = true)) := by
      intro b hb'
      obtain ⟨e, h3, h4, h5⟩ := emask_bit hb'
      refine ⟨e, h3, h4, ?_⟩
      rcases h5 with h5 | h5
      · exact .inl h5
      · have hlt := hless' e h3 h4
        refine .inr ⟨hlt, ?_⟩
        rw [List.getD_eq_getElem?_getD, hbs _ hlt] at h5
        exact h5
    have hcl : ∀ (r0 : Rec), r0.rd = q.rd → r0.wr = q.wr → r0.mask = emask bs o.after.toList → ∀ i x, i < k → all[i]? = some x → r0.mask.testBit i = false → Clear all x o (H.R i) r0 := by
      intro r0 e1 e2 e3 i x hi hx hm
      have := achk_spec hclear i x (H.R i) hx (hrecs i hi) (by rw [Nat.zero_add, ← e3]; exact hm)
      exact ⟨by rw [e1]; exact this.rw, by rw [e2]; exact this.ww, by rw [e2]; exact this.wr, by rw [e1]; exact this.rn, by rw [e2]; exact this.wn, this.dl, this.dd, this.ld⟩
    subst hq
    cases y with
    | defer _ => cases h2
    | put v =>
      dsimp only at h2
      split at h2
      · rename_i x' hx'
        let r0 : Rec := ⟨emask bs o.after.toList, s0.rd, s0.wr, (H.S k).n, s0.n⟩
        obtain ⟨xt, rfl⟩ : ∃ xt, x' = ⟨xt, d⟩ := by
          unfold aput at hx'
          split at hx'
          · cases hx'; exact ⟨_, rfl⟩
          · split at hx'
            · cases hx'; exact ⟨_, rfl⟩
            · cases hx'
        let H1 := H.snoc k xt s1 r0
        have eX : H1.X (k + 1) = xt := by simp only [H1, Hist.snoc]; rw [if_neg (by omega)]
        have eS : H1.S (k + 1) = s1 := by simp only [H1, Hist.snoc]; rw [if_neg (by omega)]
        have eXk : ∀ i, i ≤ k → H1.X i = H.X i := fun i hi => by simp [H1, Hist.snoc, hi]
        have eSk : ∀ i, i ≤ k → H1.S i = H.S i := fun i hi => by simp [H1, Hist.snoc, hi]
        have eR : ∀ i, i < k → H1.R i = H.R i := fun i hi => by simp [H1, Hist.snoc, hi]
        have eRk : H1.R k = r0 := by simp [H1, Hist.snoc]
        have hAt : At C call nt all d H1 k o v s0 := by
          refine ⟨hop, by rw [eXk k (Nat.le_refl _), eSk k (Nat.le_refl _)]; exact hrun, by rw [eXk k (Nat.le_refl _), eX]; exact hx', by rw [eRk], by rw [eRk], by rw [eRk, eSk k (Nat.le_refl _)], by rw [eRk],
            by rw [eS, eSk k (Nat.le_refl _)]; exact hs1, ?_, hless', ?_⟩
          · intro b hb'
            rw [eRk] at hb'
            obtain ⟨e, h3, h4, h5⟩ := hbits b hb'
            refine ⟨e, h3, h4, ?_⟩
            rcases h5 with h5 | ⟨h5, h6⟩
            · exact .inl h5
            · exact .inr ⟨h5, by rw [eR _ h5]; exact h6⟩
          · intro i x hi hx hm
            rw [eRk] at hm ⊢
            rw [eR i hi]
            exact hcl r0 rfl rfl rfl i x hi hx hm
        have hH1 : HistOk C call nt all d H1 (k + 1) := by
          intro i hi
          by_cases e : i = k
          · subst e; exact ⟨o, v, s0, hAt⟩
          · obtain ⟨o', v', s'', ha⟩ := hH i (by omega)
            exact ⟨o', v', s'', ha.snoc (by omega)⟩
        have h3 : (adraw C call nt all rest (bs ++ [emask bs o.after.toList]) (recs ++ [r0]) ⟨H1.X (k + 1), d⟩).run (H1.S (k + 1)) = some (r, s') := by
          rw [eX, eS]; exact h2
        have hbs1 : ∀ i, i < k + 1 → (bs ++ [emask bs o.after.toList])[i]? = some (H1.R i).mask := by
          intro i hi
          by_cases e : i = k
          · subst e
            rw [List.getElem?_append_right (by omega), hb, eRk]
            simp [r0]
          · rw [List.getElem?_append_left (by omega), hbs i (by omega), eR i (by omega)]
        have hrecs1 : ∀ i, i < k + 1 → (recs ++ [r0])[i]? = some (H1.R i) := by
          intro i hi
          by_cases e : i = k
          · subst e
            rw [List.getElem?_append_right (by omega), hr, eRk]
            simp
          · rw [List.getElem?_append_left (by omega), hrecs i (by omega), eR i (by omega)]
        obtain ⟨H', hsame, hres⟩ := ih (k + 1) H1 _ _ hd' (by simp [hb]) (by simp [hr]) hbs1 hrecs1 hH1 r s' h3
        refine ⟨H', fun i hi => ?_, ?_⟩
        · obtain ⟨q1, q2⟩ := hsame i (by omega)
          exact ⟨q1.trans (eXk i hi), q2.trans (eSk i hi)⟩
        · rcases hres with ⟨n, hn, q1, q2, q3⟩ | ⟨p, o', v', s2, q1, q2⟩
          · exact .inl ⟨n, by simp; omega, q1, q2, q3⟩
          · exact .inr ⟨p, o', v', s2, by omega, q2⟩
      · cases h2
    | panic v =>
      dsimp only at h2
      split at h2
      · rename_i hpo
        rw [Bool.and_eq_true] at hpo
        have er : r = (some v, ⟨.leaf, d⟩) := by cases h2; rfl
        have es : s1 = s' := by cases h2; rfl
        clear h2
        subst er
        let r0 : Rec := ⟨emask bs o.after.toList, s0.rd, s0.wr, (H.S k).n, s0.n⟩
        let H1 := H.snoc k .leaf s1 r0
        have eXk : ∀ i, i ≤ k → H1.X i = H.X i := fun i hi => by simp [H1, Hist.snoc, hi]
        have eSk : ∀ i, i ≤ k → H1.S i = H.S i := fun i hi => by simp [H1, Hist.snoc, hi]
        have eR : ∀ i, i < k → H1.R i = H.R i := fun i hi => by simp [H1, Hist.snoc, hi]
        have eRk : H1.R k = r0 := by simp [H1, Hist.snoc]
        refine ⟨H1, fun i hi => ⟨eXk i hi, eSk i hi⟩, .inr ⟨k, o, v, s0, Nat.le_refl _, ?_, hop, by rw [eXk k (Nat.le_refl _), eSk k (Nat.le_refl _)]; exact hrun, rfl,
          by rw [eSk k (Nat.le_refl _), ← es]; exact hs1, by simp only [H1, Hist.snoc]; rw [if_neg (by omega)]; exact es, by simp only [H1, Hist.snoc]; rw [if_neg (by omega)], by rw [eRk, eSk k (Nat.le_refl _)], by rw [eRk], ?_, hless', by rw [eRk], by rw [eRk], ?_, ?_, bs ++ [emask bs o.after.toList], by simp [hb], ?_, ?_⟩⟩
        · intro i hi
          obtain ⟨o', v', s'', ha⟩ := hH i hi
          exact ⟨o', v', s'', ha.snoc hi⟩
        · intro b hb'
          rw [eRk] at hb'
          obtain ⟨e, h3, h4, h5⟩ := hbits b hb'
          refine ⟨e, h3, h4, ?_⟩
          rcases h5 with h5 | ⟨h5, h6⟩
          · exact .inl h5
          · exact .inr ⟨h5, by rw [eR _ h5]; exact h6⟩
        · intro i x hi hx hm
          rw [eRk] at hm ⊢
          rw [eR i hi]
          exact hcl r0 rfl rfl rfl i x hi hx hm
        · intro i hi hm
          rw [eRk] at hm
          rw [eR i hi]
          exact panicOk_spec hpo.1 i _ (hrecs i hi) (by rw [Nat.zero_add]; exact hm)
        · intro i hi
          by_cases e : i = k
          · subst e
            rw [List.getElem?_append_right (by omega), hb, eRk]
            simp [r0]
          · rw [List.getElem?_append_left (by omega), hbs i (by omega), eR i (by omega)]
        · rw [hd']
          have := hpo.2
          rwa [hb] at this
      · cases h2
end
end
end Go.Proofs.BhE
