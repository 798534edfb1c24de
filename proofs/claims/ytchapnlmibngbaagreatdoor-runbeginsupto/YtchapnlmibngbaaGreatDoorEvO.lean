/- Whatever order is drawn, a region comes to what it comes to in the text's order. -/
import Derived.Test.YtchapnlmibngbaaGreatDoorEvN
set_option linter.all false
namespace Go.Proofs.BhE
open Go
noncomputable section

section
variable {P : Program} {C : Ctx} {call : FuncId → List Value → A AEnd} {nt : Nat} {all : List Oper} {d : List ADef} {H : Hist}

def wT (all : List Oper) (k t : Nat) : Bool := match all[k]? with
  | some o => match o.dst with
    | some j => Nat.beq j t
    | none => false
  | none => false
def wH (H : Hist) (k i : Nat) : Bool := (H.R k).wr.contains i || (Nat.ble (H.R k).lo i && Nat.blt i (H.R k).hi)
theorem wH_true {k i : Nat} (h : wH H k i = true) : i ∈ (H.R k).wr ∨ ((H.R k).lo ≤ i ∧ i < (H.R k).hi) := by
  unfold wH at h
  rw [Bool.or_eq_true, Bool.and_eq_true, Nat.blt_eq] at h
  rcases h with h | ⟨h1, h2⟩
  · exact .inl (by simpa using h)
  · exact .inr ⟨Nat.le_of_ble_eq_true h1, h2⟩
theorem wH_false {k i : Nat} (h : wH H k i = false) : i ∉ (H.R k).wr ∧ ¬ ((H.R k).lo ≤ i ∧ i < (H.R k).hi) := by
  unfold wH at h
  rw [Bool.or_eq_false_iff] at h
  refine ⟨by simpa using h.1, fun ⟨h1, h2⟩ => ?_⟩
  have a := Nat.ble_eq_true_of_le h1
  have b : Nat.blt i (H.R k).hi = true := by rw [Nat.blt_eq]; exact h2
  rw [a, b] at h
  exact absurd h.2 (by simp)
theorem wH_of {k i : Nat} (h : i ∈ (H.R k).wr ∨ ((H.R k).lo ≤ i ∧ i < (H.R k).hi)) : wH H k i = true := by
  cases e : wH H k i with
  | true => rfl
  | false =>
    obtain ⟨h1, h2⟩ := wH_false e
    rcases h with h | h
    · exact absurd h h1
    · exact absurd h h2

def valT (all : List Oper) (H : Hist) (n : Nat) (D : Nat → Bool) (t : Nat) : Option Value :=
  match lastIx (fun k => D k && wT all k t) n with
  | some k => (H.X (k + 1)).get t
  | none => (H.X 0).get t
def valH (H : Hist) (n : Nat) (D : Nat → Bool) (i : Nat) : Option AObj :=
  match lastIx (fun k => D k && wH H k i) n with
  | some k => (H.S (k + 1)).h.get i
  | none => (H.S 0).h.get i

theorem aput_other {x x' : AAct} {dst : Option Tmp} {v : Value} (h : aput nt x dst v = some x') {t : Nat} (ht : dst ≠ some t) : x'.t.get t = x.t.get t := by
  unfold aput at h
  split at h
  · cases h; rfl
  · rename_i j
    split at h
    · cases h
      rw [Tr.get_set_other _ _ (by intro e; exact ht (by rw [e]))]
    · cases h
theorem aput_same {x x' : AAct} {t : Nat} {v : Value} (h : aput nt x (some t) v = some x') : x'.t.get t = some v ∧ t < nt := by
  unfold aput at h
  dsimp only at h
  split at h
  · rename_i hlt
    cases h
    exact ⟨Tr.get_set_same _ _ _, by rwa [Nat.blt_eq] at hlt⟩
  · cases h

section
variable {n : Nat} (hH : HistOk C call nt all d H n) (hwf : ∀ i, (H.S 0).n ≤ i → (H.S 0).h.get i = none)
include hH

theorem hist_le {k : Nat} (hk : k < n) : (H.S k).n ≤ (H.S (k + 1)).n ∧ (H.S (k + 1)).thr = (H.S k).thr ∧ (∀ i ∈ (H.S k).rd, i ∈ (H.S (k + 1)).rd) ∧ (∀ i ∈ (H.S k).wr, i ∈ (H.S (k + 1)).wr) := by
  obtain ⟨o, v, s', a⟩ := hH k hk
  have m := A.mono _ _ _ _ a.run
  rw [a.next]
  exact ⟨m.n, rfl, fun i hi => mergeT_old _ _ _ i hi, fun i hi => mergeT_old _ _ _ i hi⟩
theorem hist_mono {k m : Nat} (hkm : k ≤ m) (hm : m ≤ n) : (H.S k).n ≤ (H.S m).n ∧ (H.S m).thr = (H.S k).thr ∧ (∀ i ∈ (H.S k).rd, i ∈ (H.S m).rd) ∧ (∀ i ∈ (H.S k).wr, i ∈ (H.S m).wr) := by
  induction m with
  | zero =>
    obtain rfl : k = 0 := by omega
    exact ⟨Nat.le_refl _, rfl, fun _ h => h, fun _ h => h⟩
  | succ m ih =>
    by_cases e : k = m + 1
    · subst e; exact ⟨Nat.le_refl _, rfl, fun _ h => h, fun _ h => h⟩
    · obtain ⟨a1, a2, a3, a4⟩ := ih (by omega) (by omega)
      obtain ⟨b1, b2, b3, b4⟩ := hist_le hH (k := m) (by omega)
      exact ⟨Nat.le_trans a1 b1, b2.trans a2, fun i hi => b3 i (a3 i hi), fun i hi => b4 i (a4 i hi)⟩
include hwf in
theorem hist_wf {k : Nat} (hk : k ≤ n) : ∀ i, (H.S k).n ≤ i → (H.S k).h.get i = none := by
  induction k with
  | zero => exact hwf
  | succ k ih =>
    obtain ⟨o, v, s', a⟩ := hH k (by omega)
    have m := A.mono _ _ _ _ a.run
    intro i hi
    rw [a.next] at hi ⊢
    exact m.wf (ih (by omega)) i hi
theorem hist_X {j : Nat} (hj : j ≤ n) (t : Nat) : (H.X j).get t = valT all H j (fun _ => true) t := by
  unfold valT
  simp only [Bool.true_and]
  induction j with
  | zero => rfl
  | succ j ih =>
    obtain ⟨o, v, s', a⟩ := hH j (by omega)
    unfold lastIx
    cases hw : wT all j t with
    | true => rfl
    | false =>
      dsimp only
      rw [← ih (by omega)]
      refine aput_other a.put ?_
      intro e
      unfold wT at hw
      rw [a.op] at hw
      dsimp only at hw
      rw [e] at hw
      simp at hw
include hwf in
theorem hist_S {j : Nat} (hj : j ≤ n) (i : Nat) : (H.S j).h.get i = valH H j (fun _ => true) i := by
  unfold valH
  simp only [Bool.true_and]
  induction j with
  | zero => rfl
  | succ j ih =>
    obtain ⟨o, v, s', a⟩ := hH j (by omega)
    unfold lastIx
    cases hw : wH H j i with
    | true => rfl
    | false =>
      dsimp only
      rw [← ih (by omega)]
      obtain ⟨h1, h2⟩ := wH_false hw
      rw [a.wr] at h1
      rw [a.lo, a.hi] at h2
      have m := A.mono _ _ _ _ a.run
      rw [a.next]
      show s'.h.get i = _
      rcases Nat.lt_or_ge i (H.S j).n with h3 | h3
      · exact m.keep i h3 h3 h1
      · have h4 : s'.n ≤ i := by omega
        rw [hist_wf hH hwf (k := j) (by omega) i h3]
        exact m.wf (hist_wf hH hwf (k := j) (by omega)) i h4
end

/-! ### The state of a region of which some operations have been done -/
structure Inv (Pm : Nat → Prop) (ρ0 : Rho) (w0 : World) (nt : Nat) (all : List Oper) (d : List ADef) (H : Hist) (n : Nat) (D : Nat → Bool) (ρ : Rho) (a : Act) (w : World) : Prop where
  size : a.tmps.size = nt
  tmps : ∀ t v, valT all H n D t = some v → ∃ v', a.tmps[t]? = some v' ∧ VRel ρ v v'
  defs : DefsRel ρ d a.defers
  obj : ∀ i o, Pm i → valH H n D i = some o → ObjOk ρ w i o
  inj : ∀ i j o o' p q, Pm i → Pm j → valH H n D i = some o → o.alive → valH H n D j = some o' → o'.alive → ρ i = some p → ρ j = some q → p.block = q.block → i = j
  ext : Rho.ext ρ0 ρ
  dom : ∀ i, ρ0 i = none → (∀ k, k < n → D k = true → ¬ ((H.R k).lo ≤ i ∧ i < (H.R k).hi)) → ρ i = none
  dead : ∀ i o, i < (H.S 0).n → valH H n D i = some o → o.alive → (H.S 0).live i
  wsize : w0.heap.size ≤ w.heap.size
  frame : ∀ b, b < w0.heap.size → (∀ i p, Pm i → (H.S 0).live i → ρ0 i = some p → p.block ≠ b) → w.heap[b]? = w0.heap[b]?
  newb : ∀ i o p, Pm i → valH H n D i = some o → o.alive → ρ i = some p → w0.heap.size ≤ p.block ∨ ∃ j q, Pm j ∧ (H.S 0).live j ∧ ρ0 j = some q ∧ q.block = p.block
  fz : ∀ b o, ρ.fz b = some o → w.heap[b]? = some o
  off : ∀ i o p b ob, Pm i → valH H n D i = some o → o.alive → ρ i = some p → ρ.fz b = some ob → p.block ≠ b
  newz : ∀ b ob, ρ.fz b = some ob → ρ0.fz b = some ob ∨ w0.heap.size ≤ b ∨ ∃ j q, Pm j ∧ (H.S 0).live j ∧ ρ0 j = some q ∧ q.block = b
  os : w.os = w0.os
  tape : w.tape = w0.tape
  output : w.output = w0.output

/-- What must hold of an operation that is done next, and of what has been done. -/
structure NextOk (all : List Oper) (H : Hist) (n : Nat) (D : Nat → Bool) (j : Nat) (o : Oper) : Prop where
  lt : j ≤ n
  op : all[j]? = some o
  notyet : D j = false
  before : ∀ i, i < j → (H.R j).mask.testBit i = true → D i = true
  behind : ∀ k, k < n → D k = true → j < k → (H.R k).mask.testBit j = false

theorem D_or {D : Nat → Bool} {j k : Nat} : (fun k => D k || Nat.beq k j) k = true ↔ D k = true ∨ k = j := by
  simp [Bool.or_eq_true]

section
variable {Pm : Nat → Prop} {ρ0 : Rho} {s0 : AS} {w0 : World} {n : Nat} {D : Nat → Bool} {ρ : Rho} {a : Act} {w : World}

/-- What it looks at is what it was in the text's order. -/
theorem looks_same (hH : HistOk C call nt all d H n) {j : Nat} {o : Oper} (hn : NextOk all H n D j o) (hcl : ∀ i x, i < j → all[i]? = some x → (H.R j).mask.testBit i = false → Clear all x o (H.R i) (H.R j))
    {t : Nat} (ht : t ∈ looks all o) : (H.X j).get t = valT all H n D t := by
  rw [hist_X hH hn.lt t]
  unfold valT
  have : lastIx (fun k => true && wT all k t) j = lastIx (fun k => D k && wT all k t) n := by
    refine lastIx_cut hn.lt ?_ ?_
    · intro k hk
      cases hw : wT all k t with
      | false => simp
      | true =>
        have hD : D k = true := by
          cases hm : (H.R j).mask.testBit k with
          | true => exact hn.before k hk hm
          | false =>
            exfalso
            unfold wT at hw
            split at hw
            · rename_i x hx
              split at hw
              · rename_i j' hj'
                have := (hcl k x hk hx hm).dl j' hj'
                rw [Nat.eq_of_beq_eq_true hw] at this
                exact this ht
              · cases hw
            · cases hw
        rw [hD]
    · intro k hk hkn
      cases hw : wT all k t with
      | false => simp
      | true =>
        cases hD : D k with
        | false => rfl
        | true =>
          exfalso
          have hne : k ≠ j := by rintro rfl; rw [hn.notyet] at hD; cases hD
          have hb := hn.behind k hkn hD (by omega)
          obtain ⟨ok, vk, sk, ak⟩ := hH k hkn
          have := ak.clear j o (by omega) hn.op hb
          unfold wT at hw
          rw [ak.op] at hw
          dsimp only at hw
          split at hw
          · rename_i j' hj'
            have h3 := this.ld j' hj'
            rw [Nat.eq_of_beq_eq_true hw] at h3
            exact h3 ht
          · cases hw
  rw [this]

/-- What it touches is what it was in the text's order. -/
theorem touch_same (hH : HistOk C call nt all d H n) (hwf : ∀ i, (H.S 0).n ≤ i → (H.S 0).h.get i = none) {j : Nat} {o : Oper} (hn : NextOk all H n D j o)
    (hcl : ∀ i x, i < j → all[i]? = some x → (H.R j).mask.testBit i = false → Clear all x o (H.R i) (H.R j))
    {i : Nat} (ht : i ∈ (H.R j).rd ∨ i ∈ (H.R j).wr) (hi : i < (H.S j).n) : (H.S j).h.get i = valH H n D i := by
  rw [hist_S hH hwf hn.lt i]
  unfold valH
  have : lastIx (fun k => true && wH H k i) j = lastIx (fun k => D k && wH H k i) n := by
    refine lastIx_cut hn.lt ?_ ?_
    · intro k hk
      cases hw : wH H k i with
      | false => simp
      | true =>
        have hD : D k = true := by
          cases hm : (H.R j).mask.testBit k with
          | true => exact hn.before k hk hm
          | false =>
            exfalso
            obtain ⟨ok, vk, sk, ak⟩ := hH k (Nat.lt_of_lt_of_le hk hn.lt)
            have c := hcl k ok hk ak.op hm
            rcases wH_true hw with h1 | h1
            · rcases ht with h2 | h2
              · exact c.rw i h2 h1
              · exact c.ww i h2 h1
            · rcases ht with h2 | h2
              · exact c.rn i h2 h1
              · exact c.wn i h2 h1
        rw [hD]
    · intro k hk hkn
      cases hw : wH H k i with
      | false => simp
      | true =>
        cases hD : D k with
        | false => rfl
        | true =>
          exfalso
          have hne : k ≠ j := by rintro rfl; rw [hn.notyet] at hD; cases hD
          have hb := hn.behind k hkn hD (by omega)
          obtain ⟨ok, vk, sk, ak⟩ := hH k hkn
          have c := ak.clear j o (by omega) hn.op hb
          rcases wH_true hw with h1 | h1
          · rcases ht with h2 | h2
            · exact c.wr i h1 h2
            · exact c.ww i h1 h2
          · have := (hist_mono hH (k := j) (m := k) (by omega) (by omega)).1
            rw [ak.lo] at h1
            omega
  rw [this]
end
end
end
end Go.Proofs.BhE
