/- An operation of a drawn region, done next, keeps what holds of the region. -/
import Derived.Test.YtchapnlmibngbaaGreatDoorEvO
set_option linter.all false
namespace Go.Proofs.BhE
open Go
noncomputable section

section
variable {P : Program} {C : Ctx} {call : FuncId → List Value → A AEnd} {nt : Nat} {all : List Oper} {d : List ADef} {H : Hist}
variable {Pm : Nat → Prop} {ρ0 : Rho} {w0 : World} {n : Nat} {D : Nat → Bool} {ρ : Rho} {a : Act} {w : World}

theorem lastIx_ext {p : Nat → Bool} {n m : Nat} (h : n ≤ m) (hp : ∀ k, n ≤ k → k < m → p k = false) : lastIx p m = lastIx p n :=
  (lastIx_cut h (fun _ _ => rfl) hp).symm
theorem valH_ext {m : Nat} (h : n ≤ m) (hD : ∀ k, n ≤ k → D k = false) (i : Nat) : valH H m D i = valH H n D i := by
  unfold valH
  rw [lastIx_ext h fun k hk _ => by rw [hD k hk]; rfl]
theorem valT_ext {m : Nat} (h : n ≤ m) (hD : ∀ k, n ≤ k → D k = false) (t : Nat) : valT all H m D t = valT all H n D t := by
  unfold valT
  rw [lastIx_ext h fun k hk _ => by rw [hD k hk]; rfl]

def orD (D : Nat → Bool) (j : Nat) : Nat → Bool := fun k => D k || Nat.beq k j
theorem orD_self (D : Nat → Bool) (j : Nat) : orD D j j = true := by simp [orD]
theorem orD_old {D : Nat → Bool} {j k : Nat} (h : k ≠ j) : orD D j k = D k := by
  unfold orD
  cases e : Nat.beq k j with
  | true => exact absurd (Nat.eq_of_beq_eq_true e) h
  | false => simp

/-- What one operation may touch. -/
def Loc (H : Hist) (j : Nat) (s1 : AS) (i : Nat) : Prop := i ∈ s1.rd ∨ i ∈ s1.wr ∨ ((H.S j).n ≤ i ∧ i < s1.n)

structure Outer (Pm : Nat → Prop) (ρ0 : Rho) (s0 sf : AS) : Prop where
  fresh : ∀ i, s0.n ≤ i → i < sf.n → ρ0 i = none
  wf : ∀ i, s0.n ≤ i → s0.h.get i = none
  low : s0.thr ≤ s0.n
  rd : ∀ i ∈ sf.rd, Pm i
  wr : ∀ i ∈ sf.wr, Pm i
  above : ∀ i, s0.thr ≤ i → i < sf.n → Pm i

/-- The operation that is done. -/
structure Doing (C : Ctx) (call : FuncId → List Value → A AEnd) (all : List Oper) (d : List ADef) (H : Hist) (Pm : Nat → Prop) (ρ0 : Rho) (n m : Nat) (D : Nat → Bool) (j : Nat) (o : Oper) (r : Eff) (s1 : AS) : Prop where
  next : NextOk all H n D j o
  run : (aeff C call all ⟨H.X j, d⟩ o).run (H.S j).iso = some (r, s1)
  rd : (H.R j).rd = s1.rd
  wr : (H.R j).wr = s1.wr
  lo : (H.R j).lo = (H.S j).n
  hi : (H.R j).hi = s1.n
  after : H.S (j + 1) = (H.S j).back s1
  clear : ∀ i x, i < j → all[i]? = some x → (H.R j).mask.testBit i = false → Clear all x o (H.R i) (H.R j)
  outer : Outer Pm ρ0 (H.S 0) ((H.S j).back s1)
  bound : ∀ k, n ≤ k → D k = false
  nm : n ≤ m
  jm : j < m

theorem Doing.small {m j : Nat} {o : Oper} {r : Eff} {s1 : AS} (h : Doing C call all d H Pm ρ0 n m D j o r s1) :
    (∀ i ∈ s1.rd, i < (H.S j).n) ∧ (∀ i ∈ s1.wr, i < (H.S j).n) := by
  have m := A.mono _ _ _ _ h.run
  exact ⟨m.small (by intro i hi; cases hi), m.smallw (by intro i hi; cases hi)⟩

/-- Touched places are held. -/
theorem Doing.held {m j : Nat} {o : Oper} {r : Eff} {s1 : AS} (h : Doing C call all d H Pm ρ0 n m D j o r s1) (hH : HistOk C call nt all d H n) {i : Nat} (hi : Loc H j s1 i) (hlt : i < s1.n) : Pm i := by
  have ht : (H.S j).thr = (H.S 0).thr := (hist_mono hH (Nat.zero_le j) h.next.lt).2.1
  have hnn : (H.S 0).n ≤ (H.S j).n := (hist_mono hH (Nat.zero_le j) h.next.lt).1
  rcases Nat.lt_or_ge i (H.S 0).thr with h1 | h1
  · rcases hi with h2 | h2 | h2
    · exact h.outer.rd i (mergeT_new _ _ _ i h2 (by rw [ht]; exact h1))
    · exact h.outer.wr i (mergeT_new _ _ _ i h2 (by rw [ht]; exact h1))
    · have := h.outer.low; omega
  · exact h.outer.above i h1 hlt

theorem Doing.touch {m j : Nat} {o : Oper} {r : Eff} {s1 : AS} (h : Doing C call all d H Pm ρ0 n m D j o r s1) (hH : HistOk C call nt all d H n) {i : Nat} (hi : Loc H j s1 i) (hlt : i < (H.S j).n) :
    (H.S j).h.get i = valH H m D i := by
  rw [valH_ext h.nm h.bound]
  refine touch_same hH h.outer.wf h.next h.clear ?_ hlt
  rcases hi with h1 | h1 | h1
  · exact .inl (by rw [h.rd]; exact h1)
  · exact .inr (by rw [h.wr]; exact h1)
  · omega

/-- The operation may be done: all that it needs is there. -/
theorem Doing.pre {m j : Nat} {o : Oper} {r : Eff} {s1 : AS} (h : Doing C call all d H Pm ρ0 n m D j o r s1) (hH : HistOk C call nt all d H n) (hI : Inv Pm ρ0 w0 nt all d H m D ρ a w) :
    Pre (Loc H j s1) ρ (H.S j).iso w s1 := by
  have hwfj := hist_wf hH h.outer.wf (k := j) h.next.lt
  have mono := A.mono _ _ _ _ h.run
  have hn1 : (H.S j).n ≤ s1.n := mono.n
  have hnn : (H.S 0).n ≤ (H.S j).n := (hist_mono hH (Nat.zero_le j) h.next.lt).1
  have lt_of : ∀ i o', (H.S j).h.get i = some o' → i < (H.S j).n := by
    intro i o' hg
    rcases Nat.lt_or_ge i (H.S j).n with h1 | h1
    · exact h1
    · rw [hwfj i h1] at hg; cases hg
  constructor
  · constructor
    · intro i o' hi hg
      have hlt := lt_of i o' hg
      rw [show (H.S j).iso.h = (H.S j).h from rfl, h.touch hH hi hlt] at hg
      exact hI.obj i o' (h.held hH hi (by omega)) hg
    · intro i k p q hi hk li lk hp hq e
      obtain ⟨o1, g1, a1⟩ := li
      obtain ⟨o2, g2, a2⟩ := lk
      have l1 := lt_of i o1 g1
      have l2 := lt_of k o2 g2
      rw [show (H.S j).iso.h = (H.S j).h from rfl, h.touch hH hi l1] at g1
      rw [show (H.S j).iso.h = (H.S j).h from rfl, h.touch hH hk l2] at g2
      exact hI.inj i k o1 o2 p q (h.held hH hi (by omega)) (h.held hH hk (by omega)) g1 a1 g2 a2 hp hq e
    · exact hI.fz
    · intro i p b ob hi li hp hb
      obtain ⟨o1, g1, a1⟩ := li
      have l1 := lt_of i o1 g1
      rw [show (H.S j).iso.h = (H.S j).h from rfl, h.touch hH hi l1] at g1
      exact hI.off i o1 p b ob (h.held hH hi (by omega)) g1 a1 hp hb
  · exact Nat.le_refl _
  · intro i h1 h2
    refine hI.dom i (h.outer.fresh i (Nat.le_trans hnn h1) h2) ?_
    intro k hk hD hint
    have hkn : k < n := by
      rcases Nat.lt_or_ge k n with h3 | h3
      · exact h3
      · rw [h.bound k h3] at hD; cases hD
    obtain ⟨ok, vk, sk, ak⟩ := hH k hkn
    have hkj : k ≠ j := by rintro rfl; rw [h.next.notyet] at hD; cases hD
    have h1' : (H.S j).n ≤ i := h1
    rcases Nat.lt_or_ge k j with h3 | h3
    · have e1 : (H.R k).hi = (H.S (k + 1)).n := by rw [ak.hi, ak.next]; rfl
      have := (hist_mono hH (k := k + 1) (m := j) (by omega) h.next.lt).1
      omega
    · have e2 : (H.S (j + 1)).n = s1.n := by rw [h.after]; rfl
      have := (hist_mono hH (k := j + 1) (m := k) (by omega) (by omega)).1
      rw [ak.lo] at hint
      omega
  · exact hwfj
  · intro i hi; exact .inl hi
  · intro i hi; exact .inr (.inl hi)
  · intro i h1 h2; exact .inr (.inr ⟨h1, h2⟩)

/-- What the store is, the operation done. -/
theorem Doing.valH {m j : Nat} {o : Oper} {r : Eff} {s1 : AS} (h : Doing C call all d H Pm ρ0 n m D j o r s1) (hH : HistOk C call nt all d H n) (i : Nat) :
    (wH H j i = true ∧ valH H m (orD D j) i = s1.h.get i) ∨ (wH H j i = false ∧ valH H m (orD D j) i = valH H m D i) := by
  cases hw : wH H j i with
  | true =>
    refine .inl ⟨rfl, ?_⟩
    have : lastIx (fun k => orD D j k && wH H k i) m = some j := by
      refine lastIx_eq h.jm (by simp [orD_self, hw]) ?_
      intro k hk hkm
      rw [orD_old (by omega)]
      cases hD : D k with
      | false => rfl
      | true =>
        cases hwk : wH H k i with
        | false => rfl
        | true =>
          exfalso
          have hkn : k < n := by
            rcases Nat.lt_or_ge k n with h3 | h3
            · exact h3
            · rw [h.bound k h3] at hD; cases hD
          obtain ⟨ok, vk, sk, ak⟩ := hH k hkn
          have c := ak.clear j o hk h.next.op (h.next.behind k hkn hD hk)
          have e2 : (H.S (j + 1)).n = s1.n := by rw [h.after]; rfl
          have hmono := (hist_mono hH (k := j + 1) (m := k) (by omega) (by omega)).1
          have mono := A.mono _ _ _ _ h.run
          have hn1 : (H.S j).n ≤ s1.n := mono.n
          rcases wH_true hwk with h1 | h1
          · rcases wH_true hw with h2 | h2
            · exact c.ww i h1 h2
            · exact c.wn i h1 h2
          · rw [ak.lo] at h1
            rcases wH_true hw with h2 | h2
            · rw [h.wr] at h2
              have := h.small.2 i h2
              omega
            · rw [h.hi] at h2
              omega
    unfold BhE.valH
    rw [this]
    dsimp only
    rw [h.after]
    rfl
  | false =>
    refine .inr ⟨rfl, ?_⟩
    unfold BhE.valH
    have : lastIx (fun k => orD D j k && wH H k i) m = lastIx (fun k => D k && wH H k i) m := by
      refine lastIx_cut (Nat.le_refl _) ?_ ?_
      · intro k hk
        by_cases e : k = j
        · subst e; simp [hw]
        · rw [orD_old e]
      · intro k h1 h2; omega
    rw [this]

theorem ObjOk.has {o : AObj} {i : Nat} (h : ObjOk ρ w i o) (ha : o.alive) : ∃ p, ρ i = some p ∧ p.block < w.heap.size := by
  cases o with
  | dead => exact ha.elim
  | row e cs =>
    obtain ⟨p, c, h1, ⟨fr, h2, _⟩, _⟩ := h
    refine ⟨p, h1, ?_⟩
    rcases Nat.lt_or_ge p.block w.heap.size with h3 | h3
    · exact h3
    · rw [Array.getElem?_eq_none h3] at h2; cases h2
  | map es cl =>
    obtain ⟨p, c, h1, h2, _⟩ := h
    refine ⟨p, h1, ?_⟩
    rcases Nat.lt_or_ge p.block w.heap.size with h3 | h3
    · exact h3
    · rw [Array.getElem?_eq_none h3] at h2; cases h2

/-- The operation done, what holds of the store holds still. -/
theorem Doing.keeps {m j : Nat} {o : Oper} {r : Eff} {s1 : AS} (h : Doing C call all d H Pm ρ0 n m D j o r s1) (hH : HistOk C call nt all d H n) (hI : Inv Pm ρ0 w0 nt all d H m D ρ a w)
    {ρ' : Rho} {w' : World} {a' : Act} (st : Step (Loc H j s1) ρ (H.S j).iso w ρ' s1 w') (hsize : a'.tmps.size = nt) (htmps : ∀ t v, valT all H m (orD D j) t = some v → ∃ v', a'.tmps[t]? = some v' ∧ VRel ρ' v v')
    (hdefs : DefsRel ρ' d a'.defers) : Inv Pm ρ0 w0 nt all d H m (orD D j) ρ' a' w' := by
  have hwfj := hist_wf hH h.outer.wf (k := j) h.next.lt
  have mono := A.mono _ _ _ _ h.run
  have hn1 : (H.S j).n ≤ s1.n := mono.n
  have hnn : (H.S 0).n ≤ (H.S j).n := (hist_mono hH (Nat.zero_le j) h.next.lt).1
  have lt_of : ∀ i o', s1.h.get i = some o' → i < s1.n := by
    intro i o' hg
    rcases Nat.lt_or_ge i s1.n with h1 | h1
    · exact h1
    · rw [st.new i h1] at hg; cases hg
  have loc_lt : ∀ i, Loc H j s1 i → i < s1.n := by
    intro i hl
    rcases hl with h1 | h1 | h1
    · have := h.small.1 i h1; omega
    · have := h.small.2 i h1; omega
    · exact h1.2
  have loc_w : ∀ i, wH H j i = true → Loc H j s1 i ∧ i < s1.n := by
    intro i hw
    rcases wH_true hw with h1 | h1
    · rw [h.wr] at h1
      have := h.small.2 i h1
      exact ⟨.inr (.inl h1), by omega⟩
    · rw [h.lo, h.hi] at h1
      exact ⟨.inr (.inr h1), h1.2⟩
  -- what is not written by it, though touched, is as it was
  have read_same : ∀ i, wH H j i = false → Loc H j s1 i → i < s1.n → s1.h.get i = BhE.valH H m D i := by
    intro i hw hl hlt
    obtain ⟨h1, h2⟩ := wH_false hw
    rw [h.wr] at h1
    rw [h.lo, h.hi] at h2
    have h3 : i < (H.S j).n := by omega
    rw [← h.touch hH hl h3]
    exact mono.keep i h3 h3 h1
  -- an object that the operation does not touch lies in a block of its own
  have apart_block : ∀ i o' p, Pm i → BhE.valH H m D i = some o' → o'.alive → ¬ Loc H j s1 i → ρ i = some p → ∀ k q, Loc H j s1 k → (H.S j).iso.live k → ρ k = some q → q.block ≠ p.block := by
    intro i o' p hi hg hal hnl hp k q hk lk hq e
    obtain ⟨ok, gk, ak⟩ := lk
    have hklt : k < (H.S j).n := by
      rcases Nat.lt_or_ge k (H.S j).n with h1 | h1
      · exact h1
      · rw [show (H.S j).iso.h = (H.S j).h from rfl, hwfj k h1] at gk; cases gk
    rw [show (H.S j).iso.h = (H.S j).h from rfl, h.touch hH hk hklt] at gk
    have := hI.inj k i ok o' q p (h.held hH hk (by omega)) hi gk ak hg hal hq hp e
    subst this
    exact hnl hk
  have keepsObj : ∀ i o', Pm i → BhE.valH H m D i = some o' → ¬ Loc H j s1 i → ObjOk ρ' w' i o' := by
    intro i o' hi hg hnl
    refine ((hI.obj i o' hi hg).other fun p hal hp => ?_).ext st.ext
    obtain ⟨p', hp', hlt⟩ := ObjOk.has (hI.obj i o' hi hg) hal
    rw [hp] at hp'
    cases hp'
    exact st.frame p.block hlt fun k q hk lk hq => apart_block i o' p hi hg hal hnl hp k q hk lk hq
  -- every object of the new store: it is the operation's own, or an old one that it does not touch
  have kinds : ∀ i o', BhE.valH H m (orD D j) i = some o' → (Loc H j s1 i ∧ s1.h.get i = some o') ∨ (¬ Loc H j s1 i ∧ BhE.valH H m D i = some o') := by
    intro i o' hg
    by_cases hl : Loc H j s1 i
    · rcases h.valH hH i with ⟨hw, e⟩ | ⟨hw, e⟩
      · rw [e] at hg; exact .inl ⟨hl, hg⟩
      · rw [e] at hg
        refine .inl ⟨hl, ?_⟩
        rw [read_same i hw hl (loc_lt i hl)]; exact hg
    · rcases h.valH hH i with ⟨hw, e⟩ | ⟨hw, e⟩
      · exact absurd (loc_w i hw).1 hl
      · rw [e] at hg; exact .inr ⟨hl, hg⟩
  have old_at : ∀ i o' p, Pm i → BhE.valH H m D i = some o' → o'.alive → ρ' i = some p → ρ i = some p ∧ p.block < w.heap.size := by
    intro i o' p hi hg hal hp
    obtain ⟨p', hp', hlt⟩ := ObjOk.has (hI.obj i o' hi hg) hal
    have := st.ext.at_ i p' hp'
    rw [hp] at this
    cases this
    exact ⟨hp', hlt⟩
  have live_old : ∀ i, Loc H j s1 i → (H.S j).iso.live i → Pm i ∧ ∃ o', BhE.valH H m D i = some o' ∧ o'.alive := by
    intro i hl hlive
    obtain ⟨o2, g2, a2⟩ := hlive
    have hlt : i < (H.S j).n := by
      rcases Nat.lt_or_ge i (H.S j).n with h1 | h1
      · exact h1
      · rw [show (H.S j).iso.h = (H.S j).h from rfl, hwfj i h1] at g2; cases g2
    rw [show (H.S j).iso.h = (H.S j).h from rfl, h.touch hH hl hlt] at g2
    exact ⟨h.held hH hl (by omega), o2, g2, a2⟩
  have mixed : ∀ i k o1 o2 p q, Pm k → Loc H j s1 i → s1.h.get i = some o1 → o1.alive → ¬ Loc H j s1 k → BhE.valH H m D k = some o2 → o2.alive → ρ' i = some p → ρ' k = some q → p.block ≠ q.block := by
    intro i k o1 o2 p q hk hl hg ha hnl hg2 ha2 hp hq e
    obtain ⟨hq', hlt⟩ := old_at k o2 q hk hg2 ha2 hq
    rcases st.newb i p hl ⟨o1, hg, ha⟩ hp with h1 | ⟨i2, q2, hl2, hlive2, hq2, e2⟩
    · omega
    · exact apart_block k o2 q hk hg2 ha2 hnl hq' i2 q2 hl2 hlive2 hq2 (e2.trans e)
  constructor
  · exact hsize
  · exact htmps
  · exact hdefs
  · intro i o' hi hg
    rcases kinds i o' hg with ⟨hl, hg'⟩ | ⟨hl, hg'⟩
    · exact st.rep.obj i o' hl hg'
    · exact keepsObj i o' hi hg' hl
  · intro i k o1 o2 p q hi hk hg1 ha1 hg2 ha2 hp hq e
    rcases kinds i o1 hg1 with ⟨hl1, hg1'⟩ | ⟨hl1, hg1'⟩
    · rcases kinds k o2 hg2 with ⟨hl2, hg2'⟩ | ⟨hl2, hg2'⟩
      · exact st.rep.inj i k p q hl1 hl2 ⟨o1, hg1', ha1⟩ ⟨o2, hg2', ha2⟩ hp hq e
      · exact absurd e (mixed i k o1 o2 p q hk hl1 hg1' ha1 hl2 hg2' ha2 hp hq)
    · rcases kinds k o2 hg2 with ⟨hl2, hg2'⟩ | ⟨hl2, hg2'⟩
      · exact absurd e.symm (mixed k i o2 o1 q p hi hl2 hg2' ha2 hl1 hg1' ha1 hq hp)
      · exact hI.inj i k o1 o2 p q hi hk hg1' ha1 hg2' ha2 (old_at i o1 p hi hg1' ha1 hp).1 (old_at k o2 q hk hg2' ha2 hq).1 e
  · exact hI.ext.trans st.ext
  · intro i hi hD
    have hj := hD j h.jm (orD_self D j)
    rw [h.lo, h.hi] at hj
    refine st.dom i (hI.dom i hi fun k hk hDk => hD k hk (by simp [orD, hDk])) ?_
    show i < (H.S j).n ∨ _
    omega
  · intro i o' hi hg hal
    rcases kinds i o' hg with ⟨hl, hg'⟩ | ⟨hl, hg'⟩
    · obtain ⟨hPm, o2, g2, a2⟩ := live_old i hl (st.dead i (show i < (H.S j).n by omega) ⟨o', hg', hal⟩)
      exact hI.dead i o2 hi g2 a2
    · exact hI.dead i o' hi hg' hal
  · exact Nat.le_trans hI.wsize st.size
  · intro b hb hne
    rw [st.frame b (Nat.lt_of_lt_of_le hb hI.wsize) ?_, hI.frame b hb hne]
    intro i p hl hlive hp e
    obtain ⟨hPm, o2, g2, a2⟩ := live_old i hl hlive
    rcases hI.newb i o2 p hPm g2 a2 hp with h1 | ⟨k, q, h1, h2, h3, h4⟩
    · omega
    · exact hne k q h1 h2 h3 (h4.trans e)
  · intro i o' p hi hg hal hp
    rcases kinds i o' hg with ⟨hl, hg'⟩ | ⟨hl, hg'⟩
    · rcases st.newb i p hl ⟨o', hg', hal⟩ hp with h1 | ⟨k, q, h1, h2, h3, h4⟩
      · exact .inl (Nat.le_trans hI.wsize h1)
      · obtain ⟨hPm, o2, g2, a2⟩ := live_old k h1 h2
        rcases hI.newb k o2 q hPm g2 a2 h3 with h5 | ⟨k2, q2, h5, h6, h7, h8⟩
        · exact .inl (by omega)
        · exact .inr ⟨k2, q2, h5, h6, h7, h8.trans h4⟩
    · exact hI.newb i o' p hi hg' hal (old_at i o' p hi hg' hal hp).1
  · exact st.rep.fz
  · intro i o' p b ob hi hg hal hp hb e
    rcases kinds i o' hg with ⟨hl, hg'⟩ | ⟨hl, hg'⟩
    · exact st.rep.off i p b ob hl ⟨o', hg', hal⟩ hp hb e
    · obtain ⟨hp0, hlt⟩ := old_at i o' p hi hg' hal hp
      rcases st.newz b ob hb with h1 | h1 | ⟨k, q, h1, h2, h3, h4⟩
      · exact hI.off i o' p b ob hi hg' hal hp0 h1 e
      · omega
      · exact apart_block i o' p hi hg' hal hl hp0 k q h1 h2 h3 (h4.trans e.symm)
  · intro b ob hb
    rcases st.newz b ob hb with h1 | h1 | ⟨k, q, h1, h2, h3, h4⟩
    · exact hI.newz b ob h1
    · exact .inr (.inl (Nat.le_trans hI.wsize h1))
    · obtain ⟨hPm, o2, g2, a2⟩ := live_old k h1 h2
      rcases hI.newb k o2 q hPm g2 a2 h3 with h5 | ⟨k2, q2, h5, h6, h7, h8⟩
      · exact .inr (.inl (by omega))
      · exact .inr (.inr ⟨k2, q2, h5, h6, h7, h8.trans h4⟩)
  · exact st.os.trans hI.os
  · exact st.tape.trans hI.tape
  · exact st.output.trans hI.output
end
end
end Go.Proofs.BhE
