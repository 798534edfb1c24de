/- A region whose order is drawn: whatever is drawn, it comes to what it comes to in the text's order. -/
import Derived.Test.YtchapnlmibngbaaGreatDoorEvQ
set_option linter.all false
namespace Go.Proofs.BhE
open Go
noncomputable section

def cnt (D : Nat → Bool) : Nat → Nat
  | 0 => 0
  | k + 1 => cnt D k + (match D k with
    | true => 1
    | false => 0)
theorem cnt_le (D : Nat → Bool) : ∀ n, cnt D n ≤ n
  | 0 => Nat.le_refl _
  | n + 1 => by
    have := cnt_le D n
    unfold cnt
    split <;> omega
theorem cnt_all {D : Nat → Bool} : ∀ {n : Nat}, cnt D n = n → ∀ k, k < n → D k = true
  | 0, _, k, hk => by omega
  | n + 1, h, k, hk => by
    have h1 := cnt_le D n
    unfold cnt at h
    split at h
    · rename_i hd
      by_cases e : k = n
      · rw [e]; exact hd
      · exact cnt_all (n := n) (by omega) k (by omega)
    · omega
theorem cnt_or_lt {D : Nat → Bool} {j : Nat} : ∀ {n : Nat}, n ≤ j → cnt (orD D j) n = cnt D n
  | 0, _ => rfl
  | n + 1, h => by
    unfold cnt
    rw [cnt_or_lt (by omega), orD_old (by omega)]
theorem cnt_or {D : Nat → Bool} {j : Nat} (hj : D j = false) : ∀ {n : Nat}, j < n → cnt (orD D j) n = cnt D n + 1
  | 0, h => by omega
  | n + 1, h => by
    unfold cnt
    by_cases e : j = n
    · subst e
      rw [cnt_or_lt (Nat.le_refl _), orD_self, hj]
      rfl
    · rw [cnt_or hj (by omega), orD_old (by omega)]
      omega

section
variable {P : Program} {C : Ctx} {call : FuncId → List Value → A AEnd} {nt : Nat} {all : List Oper} {d : List ADef} {H : Hist}
variable {Pm : Nat → Prop} {ρ0 : Rho} {w0 : World} {n m : Nat}

theorem mask_lt (hH : HistOk C call nt all d H n) : ∀ k, k < n → ∀ b, (H.R k).mask.testBit b = true → b < k := by
  intro k
  induction k using Nat.strongRecOn with
  | _ k ih =>
    intro hk b hb
    obtain ⟨o, v, s, a⟩ := hH k hk
    obtain ⟨e, h1, h2, h3⟩ := a.bits b hb
    have := a.less e h1 h2
    rcases h3 with h3 | ⟨h3, h4⟩
    · omega
    · have := ih e.on h3 (by omega) b h4
      omega

theorem Doing.valT {D : Nat → Bool} {j : Nat} {o : Oper} {r : Eff} {s1 : AS} (h : Doing C call all d H Pm ρ0 n m D j o r s1) (hH : HistOk C call nt all d H n) (t : Nat) :
    (o.dst = some t ∧ valT all H m (orD D j) t = (H.X (j + 1)).get t) ∨ (o.dst ≠ some t ∧ valT all H m (orD D j) t = BhE.valT all H m D t) := by
  by_cases e : o.dst = some t
  · refine .inl ⟨e, ?_⟩
    have hw : wT all j t = true := by unfold wT; rw [h.next.op]; dsimp only; rw [e]; simp
    have : lastIx (fun k => orD D j k && wT all k t) m = some j := by
      refine lastIx_eq h.jm (by simp [orD_self, hw]) ?_
      intro k hk hkm
      rw [orD_old (by omega)]
      cases hD : D k with
      | false => rfl
      | true =>
        cases hwk : wT all k t with
        | false => rfl
        | true =>
          exfalso
          have hkn : k < n := by
            rcases Nat.lt_or_ge k n with h3 | h3
            · exact h3
            · rw [h.bound k h3] at hD; cases hD
          obtain ⟨ok, vk, sk, ak⟩ := hH k hkn
          have c := ak.clear j o hk h.next.op (h.next.behind k hkn hD hk)
          unfold wT at hwk
          rw [ak.op] at hwk
          dsimp only at hwk
          split at hwk
          · rename_i j' hj'
            have := c.dd t e
            rw [hj', Nat.eq_of_beq_eq_true hwk] at this
            exact this rfl
          · cases hwk
    unfold BhE.valT
    rw [this]
  · refine .inr ⟨e, ?_⟩
    have hw : wT all j t = false := by
      unfold wT
      rw [h.next.op]
      dsimp only
      split
      · rename_i j' hj'
        cases hb : Nat.beq j' t with
        | false => rfl
        | true => rw [Nat.eq_of_beq_eq_true hb] at hj'; exact absurd hj' e
      · rfl
    unfold BhE.valT
    have : lastIx (fun k => orD D j k && wT all k t) m = lastIx (fun k => D k && wT all k t) m := by
      refine lastIx_cut (Nat.le_refl _) ?_ ?_
      · intro k hk
        by_cases e : k = j
        · subst e; simp [hw]
        · rw [orD_old e]
      · intro k h1 h2; omega
    rw [this]

/-- What the operation looks at is there. -/
theorem Doing.act {D : Nat → Bool} {j : Nat} {o : Oper} {r : Eff} {s1 : AS} (h : Doing C call all d H Pm ρ0 n m D j o r s1) (hH : HistOk C call nt all d H n) {ρ : Rho} {a : Act} {w : World}
    (hI : Inv Pm ρ0 w0 nt all d H m D ρ a w) : ActRel ρ nt ⟨restr (H.X j) (looks all o), d⟩ a := by
  refine ⟨hI.size, ?_, hI.defs⟩
  intro t v hv
  obtain ⟨h1, h2⟩ := restr_some hv
  rw [looks_same hH h.next h.clear h2, ← valT_ext h.nm h.bound] at h1
  exact hI.tmps t v h1
theorem Doing.run' {D : Nat → Bool} {j : Nat} {o : Oper} {r : Eff} {s1 : AS} (h : Doing C call all d H Pm ρ0 n m D j o r s1) :
    (aeff C call all ⟨restr (H.X j) (looks all o), d⟩ o).run (H.S j).iso = some (r, s1) := by
  rw [← h.run, aeff_congr C call all (x := ⟨restr (H.X j) (looks all o), d⟩) (y := ⟨H.X j, d⟩) o fun t ht => restr_mem ht]

theorem getD_set {listed : Array Bool} {j k : Nat} (hj : j < listed.size) : (listed.setIfInBounds j true).getD k false = orD (fun k => listed.getD k false) j k := by
  by_cases e : k = j
  · subst e
    rw [orD_self]
    simp [hj]
  · rw [orD_old e]
    exact getD_set_ne false (Ne.symm e)

structure Going (C : Ctx) (call : FuncId → List Value → A AEnd) (Pm : Nat → Prop) (ρ0 : Rho) (w0 : World) (nt : Nat) (ops : Array Oper) (d : List ADef) (H : Hist) (n m : Nat) (listed : Array Bool) (ρ : Rho) (a : Act) (w : World) : Prop where
  size : listed.size = ops.size
  bound : ∀ k, n ≤ k → listed.getD k false = false
  closed : ∀ k, k < n → listed.getD k false = true → ∀ b, (H.R k).mask.testBit b = true → listed.getD b false = true
  inv : Inv Pm ρ0 w0 nt ops.toList d H m (fun k => listed.getD k false) ρ a w

variable {ops : Array Oper} {Q : Exit → Act → World → Prop}

theorem nextOk_of {listed : Array Bool} {ρ : Rho} {a : Act} {w : World} (hg : Going C call Pm ρ0 w0 nt ops d H n m listed ρ a w) {j : Nat} {o : Oper} (hjn : j ≤ n) (ho : ops[j]? = some o)
    (hbits : ∀ b, (H.R j).mask.testBit b = true → ∃ e ∈ o.after.toList, Region.binds .any e = true ∧ (b = e.on ∨ (e.on < j ∧ (H.R e.on).mask.testBit b = true)))
    (hj : j ∈ Region.ready .any ops listed) : NextOk ops.toList H n (fun k => listed.getD k false) j o ∧ ∀ b, (H.R j).mask.testBit b = true → listed.getD b false = true := by
  obtain ⟨h0, o', ho', hall⟩ := mem_ready.1 hj
  rw [ho] at ho'
  cases ho'
  have hlt : j < ops.size := (Array.getElem?_eq_some_iff.1 ho).1
  have hnot : listed.getD j false = false := by
    have hlt' : j < listed.size := by rw [hg.size]; exact hlt
    simp [hlt'] at h0 ⊢
    exact h0
  have hcl : ∀ b, (H.R j).mask.testBit b = true → listed.getD b false = true := by
    intro b hb
    obtain ⟨e, h1, h2, h3⟩ := hbits b hb
    have h4 := hall e (by simpa using h1) h2
    rcases h3 with h3 | ⟨h3, h5⟩
    · rw [h3]; exact h4
    · exact hg.closed e.on (by omega) h4 b h5
  refine ⟨⟨hjn, by simpa using ho, hnot, fun i _ hb => hcl i hb, ?_⟩, hcl⟩
  intro k hk hD hjk
  cases hb : (H.R k).mask.testBit j with
  | false => rfl
  | true =>
    have := hg.closed k hk hD j hb
    rw [hnot] at this
    cases this

/-- The panic that ends a region. -/
structure Stop (C : Ctx) (call : FuncId → List Value → A AEnd) (ops : Array Oper) (d : List ADef) (H : Hist) (p : Nat) (o : Oper) (v : Value) (s1 : AS) : Prop where
  op : ops[p]? = some o
  run : (aeff C call ops.toList ⟨H.X p, d⟩ o).run (H.S p).iso = some (.panic v, s1)
  next : H.S (p + 1) = (H.S p).back s1
  leaf : H.X (p + 1) = .leaf
  lo : (H.R p).lo = (H.S p).n
  hi : (H.R p).hi = s1.n
  bits : ∀ b, (H.R p).mask.testBit b = true → ∃ e ∈ o.after.toList, Region.binds .any e = true ∧ (b = e.on ∨ (e.on < p ∧ (H.R e.on).mask.testBit b = true))
  less : ∀ e ∈ o.after.toList, Region.binds .any e = true → e.on < p
  rd : (H.R p).rd = s1.rd
  wr : (H.R p).wr = s1.wr
  clear : ∀ i x, i < p → ops.toList[i]? = some x → (H.R p).mask.testBit i = false → Clear ops.toList x o (H.R i) (H.R p)
  idle : ∀ i, i < p → (H.R p).mask.testBit i = false → (H.R i).wr = [] ∧ (H.R i).lo = (H.R i).hi
  rest : ∃ bs', bs'.length = p + 1 ∧ (∀ i, i < p + 1 → bs'[i]? = some (H.R i).mask) ∧ restAfter p bs' (ops.toList.drop (p + 1)) = true

theorem Stop.none_behind {p : Nat} {o : Oper} {v : Value} {s1 : AS} (h : Stop C call ops d H p o v s1) (hH : HistOk C call nt ops.toList d H p) {listed : Array Bool} (hb : ∀ k, p ≤ k → listed.getD k false = false)
    {j : Nat} (hj : j ∈ Region.ready .any ops listed) : j ≤ p := by
  rcases Nat.lt_or_ge p j with hlt | hge
  · exfalso
    obtain ⟨h0, o', ho', hall⟩ := mem_ready.1 hj
    obtain ⟨bs', h1, h2, h3⟩ := h.rest
    obtain ⟨bsx, h4, e, h5, h6, h7⟩ := restAfter_spec h3 (j - (p + 1)) o' (by
      rw [List.getElem?_drop]
      rw [show p + 1 + (j - (p + 1)) = j by omega]
      simpa using ho')
    have h8 := hall e (by simpa using h5) h6
    have h9 : e.on < p := by
      rcases Nat.lt_or_ge e.on p with h9 | h9
      · exact h9
      · rw [hb e.on h9] at h8; cases h8
    rcases h7 with h7 | h7
    · omega
    · rw [List.getD_eq_getElem?_getD, h4 e.on (by omega), h2 e.on (by omega)] at h7
      have := mask_lt hH e.on h9 p h7
      omega
  · exact hge

/-- What the region ends with. -/
def EndsOk (C : Ctx) (call : FuncId → List Value → A AEnd) (ops : Array Oper) (d : List ADef) (H : Hist) (n m : Nat) (Pm : Nat → Prop) (ρ0 : Rho) (w0 : World) (nt : Nat) (Q : Exit → Act → World → Prop) : Prop :=
  (n = ops.size ∧ m = n ∧ ∀ D ρ a w, (∀ k, k < n → D k = true) → Inv Pm ρ0 w0 nt ops.toList d H m D ρ a w → Q .normal a w) ∨
  (n < ops.size ∧ m = n + 1 ∧ ∃ o v s1, Stop C call ops d H n o v s1 ∧ ∀ D ρ a w v', D n = true → (∀ b, (H.R n).mask.testBit b = true → D b = true) → Inv Pm ρ0 w0 nt ops.toList d H m D ρ a w → VRel ρ v v' → Q (.panic [{ v := v', recovered := false }]) a w)

theorem region_go (hC : C.Ok P) (hcall : CallOk P call) (hH : HistOk C call nt ops.toList d H n) (hout : Outer Pm ρ0 (H.S 0) (H.S m)) (hnm : n ≤ m) (hmono : ∀ j, j ≤ m → (H.S j).n ≤ (H.S m).n ∧ (∀ i ∈ (H.S j).rd, i ∈ (H.S m).rd) ∧ (∀ i ∈ (H.S j).wr, i ∈ (H.S m).wr))
    (hend : EndsOk C call ops d H n m Pm ρ0 w0 nt Q) :
    ∀ (fuel : Nat) (listed : Array Bool) (ρ : Rho) (a : Act) (w : World), ops.size ≤ fuel + cnt (fun k => listed.getD k false) n → Going C call Pm ρ0 w0 nt ops d H n m listed ρ a w → wpAny P .any ops Q fuel listed a w := by
  have houter : ∀ j s1, j < m → H.S (j + 1) = (H.S j).back s1 → Outer Pm ρ0 (H.S 0) ((H.S j).back s1) := by
    intro j s1 hj e
    rw [← e]
    obtain ⟨h1, h2, h3⟩ := hmono (j + 1) (by omega)
    exact ⟨fun i a b => hout.fresh i a (Nat.lt_of_lt_of_le b h1), hout.wf, hout.low, fun i hi => hout.rd i (h2 i hi), fun i hi => hout.wr i (h3 i hi), fun i a b => hout.above i a (Nat.lt_of_lt_of_le b h1)⟩
  have hnil : ∀ listed ρ a w, Going C call Pm ρ0 w0 nt ops d H n m listed ρ a w → Region.ready .any ops listed = [] → Q .normal a w := by
    intro listed ρ a w hg hnil
    have hlist : ∀ k, k < ops.size → listed.getD k false = false → listed.getD k true = false := by
      intro k hk h
      have hlt' : k < listed.size := by rw [hg.size]; exact hk
      simp [hlt'] at h ⊢
      exact h
    have hnsz : n ≤ ops.size := by rcases hend with ⟨h1, _⟩ | ⟨h1, _⟩ <;> omega
    have hall : ∀ k, k < n → listed.getD k false = true := by
      intro k
      induction k using Nat.strongRecOn with
      | _ k ih =>
        intro hk
        cases hd : listed.getD k false with
        | true => rfl
        | false =>
          obtain ⟨o, v, s, ak⟩ := hH k hk
          have : k ∈ Region.ready .any ops listed := mem_ready.2 ⟨hlist k (by omega) hd, o, by simpa using ak.op, fun e he hb => by
            have h1 := ak.less e (by simpa using he) hb
            exact ih e.on h1 (by omega)⟩
          rw [hnil] at this
          cases this
    rcases hend with ⟨h1, h2, h3⟩ | ⟨h1, h2, o, v, s1, h3, h4⟩
    · exact h3 _ ρ a w hall hg.inv
    · exfalso
      have : n ∈ Region.ready .any ops listed := mem_ready.2 ⟨hlist n h1 (hg.bound n (Nat.le_refl _)), o, h3.op, fun e he hb => hall e.on (h3.less e (by simpa using he) hb)⟩
      rw [hnil] at this
      cases this
  intro fuel
  induction fuel with
  | zero =>
    intro listed ρ a w hf hg
    have h1 := cnt_le (fun k => listed.getD k false) n
    have hn : n = ops.size := by rcases hend with ⟨h1, _⟩ | ⟨h1, _⟩ <;> omega
    have hall := cnt_all (D := fun k => listed.getD k false) (n := n) (by omega)
    have hr : Region.ready .any ops listed = [] := by
      rw [List.eq_nil_iff_forall_not_mem]
      intro j hj
      obtain ⟨h0, o, ho, _⟩ := mem_ready.1 hj
      have hlt : j < ops.size := (Array.getElem?_eq_some_iff.1 ho).1
      have h2 := hall j (by omega)
      have hlt' : j < listed.size := by rw [hg.size]; exact hlt
      simp [hlt'] at h0 h2
      rw [h0] at h2
      cases h2
    exact ⟨hr, hnil listed ρ a w hg hr⟩
  | succ fuel ih =>
    intro listed ρ a w hf hg
    refine ⟨hnil listed ρ a w hg, fun j hj => ?_⟩
    have hjsz : j < ops.size := by
      obtain ⟨_, o, ho, _⟩ := mem_ready.1 hj
      exact (Array.getElem?_eq_some_iff.1 ho).1
    rcases Nat.lt_or_ge j n with hjn | hjn
    · -- an operation that goes on
      obtain ⟨o, v, s1, ak⟩ := hH j hjn
      have ho : ops[j]? = some o := by simpa using ak.op
      obtain ⟨hnext, hcl⟩ := nextOk_of hg (Nat.le_of_lt hjn) ho ak.bits hj
      have hd : Doing C call ops.toList d H Pm ρ0 n m (fun k => listed.getD k false) j o (.put v) s1 :=
        ⟨hnext, ak.run, ak.rd, ak.wr, ak.lo, ak.hi, ak.next, ak.clear, houter j s1 (by omega) ak.next, hg.bound, hnm, by omega⟩
      refine eff_ok hC hcall ho (hd.act hH hg.inv) hd.run' (hd.pre hH hg.inv) ?_ ?_ ?_
      · intro v2 hv2 ρ' w' v' st hv'
        cases hv2
        have hjl : j < listed.size := by rw [hg.size]; exact hjsz
        have hfun : (fun k => (listed.setIfInBounds j true).getD k false) = orD (fun k => listed.getD k false) j := funext fun k => getD_set hjl
        refine ih (listed.setIfInBounds j true) ρ' _ w' ?_ ⟨by simpa using hg.size, ?_, ?_, ?_⟩
        · rw [hfun, cnt_or hnext.notyet hjn]
          omega
        · intro k hk
          rw [getD_set hjl, orD_old (by omega)]
          exact hg.bound k hk
        · intro k hk hD b hb
          rw [getD_set hjl] at hD ⊢
          by_cases e : k = j
          · subst e
            simp only [orD, Bool.or_eq_true]
            exact .inl (hcl b hb)
          · rw [orD_old e] at hD
            simp only [orD, Bool.or_eq_true]
            exact .inl (hg.closed k hk hD b hb)
        · rw [hfun]
          refine hd.keeps hH hg.inv st ?_ ?_ ?_
          · cases o.dst with
            | none => exact hg.inv.size
            | some t => simp [Act.put, hg.inv.size]
          · intro t u hu
            rcases hd.valT hH t with ⟨e1, e2⟩ | ⟨e1, e2⟩
            · rw [e2] at hu
              have hput := ak.put
              rw [e1] at hput
              obtain ⟨h1, h2⟩ := aput_same hput
              simp only at h1
              rw [h1] at hu
              cases hu
              exact ⟨v', by rw [e1]; simp [Act.put, hg.inv.size, h2], hv'⟩
            · rw [e2] at hu
              obtain ⟨u', h1, h2⟩ := hg.inv.tmps t u hu
              refine ⟨u', ?_, h2.ext st.ext⟩
              cases hdst : o.dst with
              | none => exact h1
              | some t' =>
                simp only [Act.put]
                rw [Array.getElem?_setIfInBounds_ne (by rintro rfl; exact e1 hdst)]
                exact h1
          · have := hg.inv.defs.ext st.ext
            cases o.dst <;> exact this
      · intro _ h; cases h
      · intro _ h; cases h
    · -- the panic
      rcases hend with ⟨h1, _⟩ | ⟨h1, h2, o, v, s1, hs, hpan⟩
      · omega
      have hjle := hs.none_behind hH hg.bound hj
      have hjeq : j = n := by omega
      subst hjeq
      obtain ⟨hnext, hcl⟩ := nextOk_of hg (Nat.le_refl _) hs.op hs.bits hj
      have hd : Doing C call ops.toList d H Pm ρ0 j m (fun k => listed.getD k false) j o (.panic v) s1 :=
        ⟨hnext, hs.run, hs.rd, hs.wr, hs.lo, hs.hi, hs.next, hs.clear, houter j s1 (by omega) hs.next, hg.bound, hnm, by omega⟩
      refine eff_ok hC hcall hs.op (hd.act hH hg.inv) hd.run' (hd.pre hH hg.inv) ?_ ?_ ?_
      · intro _ h; cases h
      · intro _ h; cases h
      · intro v2 hv2 ρ' w' v' st hv'
        cases hv2
        refine hpan (orD (fun k => listed.getD k false) j) ρ' a w' v' (orD_self _ _) (fun b hb => by simp only [orD, Bool.or_eq_true]; exact .inl (hcl b hb)) ?_ hv'
        refine hd.keeps hH hg.inv st hg.inv.size ?_ (hg.inv.defs.ext st.ext)
        intro t u hu
        rcases hd.valT hH t with ⟨e1, e2⟩ | ⟨e1, e2⟩
        · rw [e2, hs.leaf, Tr.get_leaf] at hu
          cases hu
        · rw [e2] at hu
          obtain ⟨u', h1, h2⟩ := hg.inv.tmps t u hu
          exact ⟨u', h1, h2.ext st.ext⟩
end
end
end Go.Proofs.BhE
