/- The closed run's append and copy. -/
import Derived.Test.YtchapnlmibngbaaGreatDoorEvG
set_option linter.all false
namespace Go.Proofs.BhE
open Go
noncomputable section

section
variable {P : Program} {C : Ctx} {Pm : Nat → Prop} {ρ : Rho} {s : AS} {w : World}

theorem read_cells {size n : Nat} {x x' : Value} (hx : VRel ρ x x') (hn : ∀ a m c, x = .slice a m c → n ≤ m) (hs : ∀ y, x = .string y → size = 1 ∧ n = y.size) :
    ReadAt P Pm ρ s w (acells size n x) (Builtin.firstCells size n x') (fun x y => VRels ρ x y.toList ∧ x.length = n * size) := by
  cases hx with
  | snil =>
    intro x s' e hp
    cases e
    have : n = 0 := by have := hn _ _ _ rfl; omega
    exact ⟨rfl, rfl, #[], rfl, .nil, by subst this; simp⟩
  | @slx i o m c p h =>
    intro x s' e hp
    obtain ⟨q1, q2, y, q3, q4, q5⟩ := read_loadN (P := P) (a := ⟨i, o, none⟩) (n * size) ⟨p, h, rfl, rfl⟩ x s' e hp
    exact ⟨q1, q2, y, q3, q4, q5⟩
  | @slu i o m c ee p h _ _ =>
    intro x s' e hp
    obtain ⟨q1, q2, y, q3, q4, q5⟩ := read_loadN (P := P) (a := ⟨i, o, none⟩) (n * size) ⟨p, h, rfl, rfl⟩ x s' e hp
    exact ⟨q1, q2, y, q3, q4, q5⟩
  | slz h =>
    have : n = 0 := by have := hn _ _ _ rfl; omega
    subst this
    intro x s' e hp
    simp only [acells, Nat.zero_mul, aloadN] at e
    cases e
    exact ⟨rfl, rfl, #[], by simp only [Builtin.firstCells, Nat.zero_mul]; rfl, .nil, by simp⟩
  | str y =>
    intro x s' e hp
    cases e
    obtain ⟨rfl, rfl⟩ := hs y rfl
    refine ⟨rfl, rfl, _, rfl, ?_, by simp⟩
    have : (Array.map (fun b : UInt8 => Value.int .u8 b.toNat) (y.extract 0 y.size).data).toList = (y.data.toList.take y.size).map fun b => Value.int .u8 b.toNat := by
      cases y with
      | mk d => cases d with
        | mk l =>
          rw [show (ByteArray.mk ⟨l⟩) = ByteArray.mk l.toArray from rfl, Go.ByteArray.extract_mk]
          simp
    rw [this]
    generalize (y.data.toList.take y.size) = l
    induction l with
    | nil => exact .nil
    | cons b l ih => exact .cons (.int _ _) ih
  | @listz k cap a hk hk2 hk3 =>
    simp only [acells]
    split
    · rename_i hc
      rw [Bool.and_eq_true] at hc
      intro x s' e hp
      obtain ⟨y, h1, h2, h3⟩ := run_first_fz (P := P) (size := size) (n := n) hp.rep.fz (VRel.listz (ρ := ρ) (k := k) (cap := cap) (a := a) hk hk2 hk3) (Nat.le_of_ble_eq_true hc.1) hc.2
      cases e
      exact ⟨rfl, rfl, y, h1, h2, h3⟩
    · intro x s' e hp; cases e
  | @list k b off cap sz items c e fr hfz hsz hr hcap hk hpu =>
    simp only [acells]
    split
    · rename_i hc
      rw [Bool.and_eq_true] at hc
      intro x s' ex hp
      obtain ⟨y, h1, h2, h3⟩ := run_first_fz (P := P) (size := size) (n := n) hp.rep.fz (VRel.list (ρ := ρ) (k := k) hfz hsz hr hcap hk hpu) (Nat.le_of_ble_eq_true hc.1) hc.2
      cases ex
      exact ⟨rfl, rfl, y, h1, h2, h3⟩
    · intro x s' e hp; cases e
  | _ => intro x s' e hp; cases e

/-! ### 2. Cells written into a block -/
/-! ### 3. Append -/
def alenOf : Value → Option Nat
  | .slice _ n _ => some n
  | .string s => some s.size
  | .func (.yield _) items _ => some items.toList.length
  | _ => none
theorem alenOf_run {x x' : Value} {n : Nat} (h : alenOf x = some n) (hx : VRel ρ x x') (w : World) : (Builtin.lenOf x').run P w = .ok n w := by
  cases hx <;> simp only [alenOf] at h <;> first
    | (cases h; done)
    | (cases h; rfl)

def agrow (e : TypeId) (size : Nat) (sLen n : Nat) (x0 x1 : Value) (kill : Option Nat) : A Value := do
  let old ← acells size sLen x0
  let new ← acells size n x1
  forceL (old ++ new) fun all =>
  match all.all plainCell with
  | false => A.fail
  | true =>
    match kill with
    | some i => do
      akill e i
      let j ← anew (.row e all)
      pure (.slice (some ⟨j, 0, none⟩) (sLen + n) (2 * size + 1))
    | none => do
      let j ← anew (.row e all)
      pure (.slice (some ⟨j, 0, none⟩) (sLen + n) (2 * size + 1))

def aappend (C : Ctx) (st xt : TypeId) (x0 x1 : Value) : A Value :=
  match C.und st, C.und xt, x0, alenOf x1 with
  | some (.slice e), some d, .slice base sLen cap, some n =>
    match C.inf e, azeroO C e with
    | some inf, some z =>
      match isSeqD d && Nat.ble ((sLen + n) * inf.bytes) 1099511627776 && Nat.ble (sLen + n) 1099511627776 && Nat.beq z.cells.toList.length inf.size &&
        (match x1 with | .string _ => Nat.beq inf.size 1 | _ => true) with
      | false => A.fail
      | true =>
        match Nat.beq (cap % 2) 0 with
        | true =>
          match Nat.ble (sLen + n) (cap / 2) with
          | true => do
            let new ← acells inf.size n x1
            match base with
            | some a => do
              astoreN (a.add (sLen * inf.size)) new
              pure (.slice base (sLen + n) cap)
            | none => pure (.slice base (sLen + n) cap)
          | false => agrow e inf.size sLen n x0 x1 none
        | false =>
          match n with
          | 0 => pure x0
          | _ + 1 =>
            match base, Nat.beq (cap / 2) inf.size with
            | some a, true => agrow e inf.size sLen n x0 x1 (some a.block)
            | _, _ => A.fail
    | _, _ => A.fail
  | some (.slice e), some d, .func (.yield k) items _, some n =>
    match C.inf e, azeroO C e with
    | some inf, some z =>
      match isSeqD d && Nat.ble ((items.toList.length + n) * inf.bytes) 1099511627776 && Nat.ble (items.toList.length + n) 1099511627776 && Nat.beq z.cells.toList.length inf.size &&
        (match x1 with | .string _ => Nat.beq inf.size 1 | _ => true) with
      | false => A.fail
      | true =>
        match n with
        | 0 => pure x0
        | _ + 1 => match fullK k with
          | true => agrow e inf.size items.toList.length n x0 x1 none
          | false => A.fail
    | _, _ => A.fail
  | _, _, _, _ => A.fail

theorem zeroCells_size (z : Array Value) (n : Nat) : (Builtin.zeroCells z n).size = n * z.size := by simp [Builtin.zeroCells]

/-- A new array, its room as the tape has it. -/
theorem sim_regrow_new {e : TypeId} {size sLen n newCap : Nat} {x0 x0' x1 x1' : Value} {z : Value} {kill : Option Nat} (h0 : VRel ρ x0 x0') (h1 : VRel ρ x1 x1')
    (hn0 : ∀ a m c, x0 = .slice a m c → sLen ≤ m) (hn1 : ∀ a m c, x1 = .slice a m c → n ≤ m) (hs0 : ∀ y, x0 ≠ .string y) (hs1 : ∀ y, x1 = .string y → size = 1 ∧ n = y.size)
    (hz : z.cells.size = size) (hcap : sLen + n ≤ newCap) (hk : ∀ i, kill = some i → ∃ o p, ρ i = some p ∧ (∃ m c, x0 = .slice (some ⟨i, o, none⟩) m c)) :
    SimAt P Pm ρ s w (agrow e size sLen n x0 x1 kill) (do
      let old ← Builtin.firstCells size sLen x0'
      let new ← Builtin.firstCells size n x1'
      let a ← newRow e (old ++ new ++ Builtin.zeroCells z.cells (newCap - (sLen + n)))
      pure (.slice (some a) (sLen + n) newCap)) VRel := by
  unfold agrow
  simp only [forceL_eq]
  refine sim_bind (read_cells h0 hn0 (fun y hy => absurd hy (hs0 y))).sim ?_
  rintro ρ1 s1 w1 old old' _ ⟨rfl, hold, lold⟩
  refine sim_bind (read_cells h1 hn1 hs1).sim ?_
  rintro ρ2 s2 w2 new new' _ ⟨rfl, hnew, lnew⟩
  split
  · exact sim_fail
  have hall : VRels ρ2 (old ++ new) (old' ++ new').toList := by rw [Array.toList_append]; exact hold.append hnew
  have hrel : ∀ (ρ3 : Rho) (j r : Nat), ρ3 j = some ⟨r, 0, newCap * size⟩ → VRel ρ3 (.slice (some ⟨j, 0, none⟩) (sLen + n) (2 * size + 1)) (.slice (some ⟨r, 0, none⟩) (sLen + n) newCap) := by
    intro ρ3 j r hj
    exact .slu (p := ⟨r, 0, newCap * size⟩) hj (by simp) hcap
  have hroom : (old ++ new).length ≤ newCap * size := by
    rw [List.length_append, lold, lnew, ← Nat.add_mul]
    exact Nat.mul_le_mul_right _ hcap
  have htot : newCap * size ≤ (old' ++ new').size + (Builtin.zeroCells z.cells (newCap - (sLen + n))).size := by
    have e1 := hall.length
    simp only [Array.length_toList] at e1
    rw [zeroCells_size, hz, ← e1, List.length_append, lold, lnew, ← Nat.add_mul, ← Nat.add_mul]
    exact Nat.mul_le_mul_right _ (by omega)
  have mk : ∀ (s3 : AS) (w3 : World), SimAt P Pm ρ2 s3 w3 (do
      let j ← anew (.row e (old ++ new))
      pure (.slice (some ⟨j, 0, none⟩) (sLen + n) (2 * size + 1))) (do
      let a ← newRow e (old' ++ new' ++ Builtin.zeroCells z.cells (newCap - (sLen + n)))
      pure (.slice (some a) (sLen + n) newCap)) VRel := by
    intro s3 w3
    refine sim_congr (c' := (newObj (.cells (old' ++ new' ++ Builtin.zeroCells z.cells (newCap - (sLen + n))) e) >>= fun r => pure (Value.slice (some ⟨r, 0, none⟩) (sLen + n) newCap))) rfl ?_
    refine sim_bind (sim_newRoom (total := newCap * size) hall hroom htot) ?_
    intro ρ3 s4 w4 j r _ hj
    exact sim_pure (hrel ρ3 j r hj)
  cases kill with
  | none => exact mk _ _
  | some i =>
    dsimp only
    intro x s' ex hp
    obtain ⟨_, s3, e1, e2⟩ := A.bindRun_some (a := akill e i) ex
    have hk1 : s3.h = s2.h.set i .dead ∧ s3.n = s2.n ∧ i < s2.n ∧ s2.le s3 := by
      have hm := (akill e i).mono _ _ _ e1
      revert e1
      unfold akill
      dsimp only
      split
      · rename_i e' cs' hg
        split
        case h_2 => intro e1; cases e1
        intro e1
        cases e1
        refine ⟨?_, ?_, hp.lt hg, hm⟩
        · show (s2.touchW i).h.set _ _ = _
          rw [(AS.touchW_h i s2).1]
        · show (s2.touchW i).n = _
          exact (AS.touchW_h i s2).2
      · intro e1; cases e1
    obtain ⟨hk2, hk3, hk4, hk5⟩ := hk1
    have st := Step.kill hp hk2 hk3 hk4
    obtain ⟨ρ', y, w', h5, st2, hr⟩ := mk s3 w2 x s' e2 (hp.next hk5 st)
    exact ⟨ρ', y, w', h5, st.trans st2 hk5.n (A.mono _ _ _ _ e2).n, hr⟩

theorem akill_run {e i : Nat} {s s3 : AS} {u : Unit} (h : (akill e i).run s = some (u, s3)) : ∃ cs, s.h.get i = some (.row e cs) ∧ s3 = (s.touchW i).put i .dead := by
  revert h
  unfold akill
  dsimp only
  split
  · rename_i e' cs' hg
    split
    · rename_i he
      intro h
      cases h
      rw [Nat.eq_of_beq_eq_true he] at hg
      exact ⟨cs', hg, rfl⟩
    · intro h; cases h
  · intro h; cases h

/-- The cells go into the room that there is. -/
theorem sim_regrow_room {e : TypeId} {size sLen n c' : Nat} {i o : Nat} {p : Place} {cp : Nat} {x1 x1' : Value} (hρ : ρ i = some p) (h1 : VRel ρ x1 x1') (hroom : o + c' * size ≤ p.total)
    (hn1 : ∀ a m c, x1 = .slice a m c → n ≤ m) (hs1 : ∀ y, x1 = .string y → size = 1 ∧ n = y.size) (hcap : sLen + n ≤ c') :
    SimAt P Pm ρ s w (agrow e size sLen n (.slice (some ⟨i, o, none⟩) sLen cp) x1 (some i)) (do
      let new ← Builtin.firstCells size n x1'
      storeCells ((⟨p.block, p.base + o, none⟩ : Addr).add (sLen * size)) new.toList
      pure (.slice (some ⟨p.block, p.base + o, none⟩) (sLen + n) c')) VRel := by
  intro x s' ex hp
  unfold agrow at ex
  simp only [forceL_eq] at ex
  obtain ⟨old, s1, e1, ex⟩ := A.bindRun_some (a := acells size sLen (.slice (some ⟨i, o, none⟩) sLen cp)) ex
  obtain ⟨new, s2, e2, ex⟩ := A.bindRun_some (a := acells size n x1) ex
  revert ex
  split
  · intro ex; cases ex
  rename_i hpl
  intro ex
  obtain ⟨_, s3, e3, ex⟩ := A.bindRun_some (a := akill e i) ex
  obtain ⟨j, s4, e4, ex⟩ := A.bindRun_some (a := anew (.row e (old ++ new))) (f := fun j => pure (Value.slice (some ⟨j, 0, none⟩) (sLen + n) (2 * size + 1))) ex
  obtain rfl : Value.slice (some ⟨j, 0, none⟩) (sLen + n) (2 * size + 1) = x := by cases ex; rfl
  obtain rfl : s4 = s' := by cases ex; rfl
  clear ex
  obtain ⟨cs, hg, rfl⟩ := akill_run e3
  have m1 : s.le s1 := A.mono _ _ _ _ e1
  have m2 : s1.le s2 := A.mono _ _ _ _ e2
  have m3 : s2.le ((s2.touchW i).put i .dead) := A.mono _ _ _ _ e3
  have m4 : ((s2.touchW i).put i .dead).le s4 := A.mono _ _ _ _ e4
  cases e4
  have hx0 : VRel ρ (.slice (some ⟨i, o, none⟩) sLen (2 * c')) (.slice (some ⟨p.block, p.base + o, none⟩) sLen c') := .slx hρ
  have e1' : (acells size sLen (.slice (some ⟨i, o, none⟩) sLen (2 * c'))).run s = some (old, s1) := e1
  obtain ⟨a1, a2, old', a3, a4, a5⟩ := read_cells (P := P) (Pm := Pm) (w := w) hx0 (n := sLen) (size := size) (by intro a m c e; cases e; exact Nat.le_refl _) (by intro y e; cases e) old s1 e1' (hp.first (m2.trans (m3.trans m4)))
  have hp1 := hp.same m1 a1 a2
  obtain ⟨b1, b2, new', b3, b4, b5⟩ := read_cells (P := P) (Pm := Pm) (w := w) h1 hn1 hs1 new s2 e2 (hp1.first (m3.trans m4))
  have hp2 := hp1.same m2 b1 b2
  have hPm : Pm i := by
    rcases AS.touchW_in i s2 with h0 | h0
    · exact hp2.above _ h0 (Nat.lt_of_lt_of_le (hp2.lt hg) (m3.trans m4).n)
    · exact hp2.wr _ (m4.wr _ h0)
  obtain ⟨p', c, q1, ⟨fr, q2, qfr⟩, q3, q4, q5⟩ := hp2.rep.obj _ _ hPm hg
  rw [hρ] at q1
  cases q1
  have hnl : new'.toList.length = n * size := by rw [← b4.length, b5]
  have hmul : sLen * size + n * size ≤ c' * size := by rw [← Nat.add_mul]; exact Nat.mul_le_mul_right _ hcap
  have hol : old.length = sLen * size := a5
  have hnwl : new.length = n * size := b5
  obtain ⟨w'', c'', r1, r2, r3, r4, r5, r6, r7, r8, r9⟩ := run_storeCells_block P new'.toList 0 w p.block (p.base + o + sLen * size) c e fr q2 qfr (by rw [hnl]; omega) (b4.plain (by
    rw [List.all_append, Bool.and_eq_true] at hpl; exact hpl.2))
  have hth : (s2.touchW i).h = s2.h := (AS.touchW_h i s2).1
  have htn : (s2.touchW i).n = s2.n := (AS.touchW_h i s2).2
  let p' : Place := ⟨p.block, p.base + o, p.total - o⟩
  have hρn : ρ s2.n = none := hp2.fresh s2.n (Nat.le_refl _) (by show s2.n < (s2.touchW i).n + 1; omega)
  have st : Step Pm ρ s2 w (Rho.put ρ s2.n p') { ((s2.touchW i).put i .dead) with h := ((s2.touchW i).put i .dead).h.set ((s2.touchW i).put i .dead).n (.row e (old ++ new)), n := ((s2.touchW i).put i .dead).n + 1 } w'' := by
    refine Step.regrow (p := p) (p' := p') hp2 hPm ⟨_, hg, trivial⟩ hρ (e := e) (cs := old ++ new) ?_ ?_ ?_ rfl r5 r6 r7 r8 r9
    · show ((s2.touchW i).h.set i .dead).set (s2.touchW i).n _ = _
      rw [hth, htn]
    · show (s2.touchW i).n + 1 = _
      rw [htn]
    · refine ⟨p', c'', by simp [Rho.put], ⟨fr, r2, by unfold Unfrozen at qfr ⊢; rw [r3]; exact qfr⟩, ?_, ?_, ?_⟩
      · rw [List.length_append, hol, hnwl]
        show _ ≤ p.total - o
        omega
      · show p.base + o + (p.total - o) ≤ c''.size
        rw [r3]; omega
      · intro k v hk
        show ∃ v', c''[p.base + o + k]? = some v' ∧ _
        rw [r4]
        simp only [Nat.add_zero]
        rcases Nat.lt_or_ge k (sLen * size) with hlt | hge
        · rw [if_neg (by omega)]
          rw [List.getElem?_append_left (by omega)] at hk
          have hgs : s.h.get i = some (.row e cs) := by rw [← a1, ← b1]; exact hg
          have h2 := aloadN_spec (a := ⟨i, o, none⟩) e1 hgs
          rw [h2, List.getElem?_take_of_lt hlt, List.getElem?_drop] at hk
          obtain ⟨v', hv', hr⟩ := q5 _ _ hk
          exact ⟨v', by rw [← hv']; congr 1; show p.base + o + k = p.base + (o + k); omega, hr.ext (Rho.put_ext hρn)⟩
        · rw [List.getElem?_append_right (by omega)] at hk
          have hk2 : k - old.length < new.length := by
            rcases Nat.lt_or_ge (k - old.length) new.length with h3 | h3
            · exact h3
            · rw [List.getElem?_eq_none h3] at hk; cases hk
          rw [if_pos (by rw [hnl]; omega)]
          obtain ⟨v', hv', hr⟩ := b4.get _ _ hk
          refine ⟨v', ?_, hr.ext (Rho.put_ext hρn)⟩
          rw [← hv']
          congr 1
          omega
  refine ⟨Rho.put ρ s2.n p', .slice (some ⟨p.block, p.base + o, none⟩) (sLen + n) c', w'', ?_, (Step.same hp (b1.trans a1) (b2.trans a2)).trans st (m1.trans m2).n (m3.trans m4).n, ?_⟩
  · rw [Sem.run_bind, b3]
    dsimp only
    rw [Sem.run_bind, add_spot]
    rw [r1]
    rfl
  · have hj : (Rho.put ρ s2.n p') ((s2.touchW i).put i .dead).n = some p' := by
      show (Rho.put ρ s2.n p') (s2.touchW i).n = _
      rw [htn]; simp [Rho.put]
    have := VRel.slu (ρ := Rho.put ρ s2.n p') (o := 0) (n := sLen + n) (c := c') (e := size) hj (by show 0 + c' * size ≤ p.total - o; omega) hcap
    exact this

theorem run_cells_zero {size : Nat} {x x' : Value} {m : Nat} (h : alenOf x = some m) (hx : VRel ρ x x') (w : World) : (Builtin.firstCells size 0 x').run P w = .ok #[] w := by
  cases hx <;> simp only [alenOf] at h
  case listz _ _ a _ _ _ => cases a <;> simp only [Builtin.firstCells, Nat.zero_mul] <;> rfl
  all_goals first
    | (cases h; done)
    | (simp only [Builtin.firstCells, Nat.zero_mul]; rfl)
    | (simp [Builtin.firstCells])

theorem sim_append_list (hC : C.Ok P) {st xt ty e : TypeId} {d : TypeDesc} {k n : Nat} {items fc : Array Value} {x0' x1 x1' : Value} (h0 : VRel ρ (.func (.yield k) items fc) x0') (h1 : VRel ρ x1 x1')
    (hst : C.und st = some (.slice e)) (hxt : C.und xt = some d) (hlen : alenOf x1 = some n) : SimAt P Pm ρ s w (aappend C st xt (.func (.yield k) items fc) x1) (Builtin.append_ #[st, xt] ty #[x0', x1']) VRel := by
  have hshape : ∃ base cap, fc = #[] ∧ x0' = .slice base items.toList.length cap ∧ items.toList.length ≤ cap ∧ (fullK k = true → cap = items.toList.length) := by
    cases h0 with
    | listz hk _ _ => exact ⟨_, _, rfl, rfl, Nat.zero_le _, hk⟩
    | list hfz hsz hr hcap hk hpu => exact ⟨_, _, rfl, rfl, hcap, hk⟩
  obtain ⟨base, cap, rfl, rfl, hcap, hk⟩ := hshape
  unfold aappend
  rw [hst, hxt, hlen]
  dsimp only
  split
  · rename_i inf z hinf hz
    split
    · exact sim_fail
    rename_i hcond
    simp only [Bool.and_eq_true] at hcond
    obtain ⟨⟨⟨⟨c1, c2⟩, c3⟩, c4⟩, c5⟩ := hcond
    have c2 := Nat.le_of_ble_eq_true c2
    have c3 := Nat.le_of_ble_eq_true c3
    have c4 := Nat.eq_of_beq_eq_true c4
    have hn1 : ∀ a m c, x1 = .slice a m c → n ≤ m := by
      intro a m c e; subst e; simp only [alenOf] at hlen; cases hlen; exact Nat.le_refl _
    have hs1 : ∀ y, x1 = .string y → inf.size = 1 ∧ n = y.size := by
      intro y e; subst e; simp only [alenOf] at hlen; cases hlen; exact ⟨Nat.eq_of_beq_eq_true c5, rfl⟩
    have hlr := alenOf_run (P := P) hlen h1 w
    obtain ⟨it, hit, hiz, hzr⟩ := azeroO_spec hz
    rw [hinf] at hit
    cases hit
    cases n with
    | zero =>
      dsimp only
      refine sim_congr (append_room (w := w) (base := base) (sCap := cap) hC hst hxt c1 hinf hlr (by omega)) ?_
      refine sim_pre (run_cells_zero hlen h1 w) ?_
      cases base with
      | none => exact sim_pure h0
      | some a =>
        refine sim_pre (y := ()) rfl ?_
        exact sim_pure h0
    | succ m =>
      dsimp only
      split
      · rename_i hk1
        obtain ⟨newCap, hnc, hrun⟩ := append_grow (P := P) (w := w) (ty := ty) (base := base) (sLen := items.toList.length) (sCap := cap) hC hst hxt c1 hinf hiz hlr (by have := hk hk1; omega) (by omega) (by omega)
        refine sim_drawn (w.drawn + 1) hrun ?_
        exact sim_regrow_new h0 h1 (by intro a m c e; cases e) hn1 (by intro y e; cases e) hs1 (by simpa using c4) hnc (by intro i e; cases e)
      · exact sim_fail
  · exact sim_fail

theorem sim_append (hC : C.Ok P) {st xt ty : TypeId} {x0 x0' x1 x1' : Value} (h0 : VRel ρ x0 x0') (h1 : VRel ρ x1 x1') :
    SimAt P Pm ρ s w (aappend C st xt x0 x1) (Builtin.append_ #[st, xt] ty #[x0', x1']) VRel := by
  unfold aappend
  split
  · rename_i e d base sLen cap n hst hxt hlen
    split
    · rename_i inf z hinf hz
      split
      · exact sim_fail
      rename_i hcond
      simp only [Bool.and_eq_true] at hcond
      obtain ⟨⟨⟨⟨c1, c2⟩, c3⟩, c4⟩, c5⟩ := hcond
      have c2 := Nat.le_of_ble_eq_true c2
      have c3 := Nat.le_of_ble_eq_true c3
      have c4 := Nat.eq_of_beq_eq_true c4
      have hn1 : ∀ a m c, x1 = .slice a m c → n ≤ m := by
        intro a m c e; subst e; simp only [alenOf] at hlen; cases hlen; exact Nat.le_refl _
      have hs1 : ∀ y, x1 = .string y → inf.size = 1 ∧ n = y.size := by
        intro y e; subst e; simp only [alenOf] at hlen; cases hlen; exact ⟨Nat.eq_of_beq_eq_true c5, rfl⟩
      have hlr := alenOf_run (P := P) hlen h1 w
      obtain ⟨it, hit, hiz, hzr⟩ := azeroO_spec hz
      rw [hinf] at hit
      cases hit
      have hgrow : ∀ {base' : Option Addr} {cap' : Nat} {kill : Option Nat}, VRel ρ (.slice base sLen cap) (.slice base' sLen cap') → ¬ sLen + n ≤ cap' →
          (∀ i, kill = some i → ∃ o p, ρ i = some p ∧ (∃ m c, Value.slice base sLen cap = .slice (some ⟨i, o, none⟩) m c)) →
          SimAt P Pm ρ s w (agrow e inf.size sLen n (.slice base sLen cap) x1 kill) (Builtin.append_ #[st, xt] ty #[.slice base' sLen cap', x1']) VRel := by
        intro base' cap' kill hv hroom hk
        obtain ⟨newCap, hnc, hrun⟩ := append_grow (P := P) (w := w) (ty := ty) (base := base') hC hst hxt c1 hinf hiz hlr hroom (by omega) (by omega)
        refine sim_drawn (w.drawn + 1) hrun ?_
        exact sim_regrow_new hv h1 (by intro a m c e; cases e; exact Nat.le_refl _) hn1 (by intro y e; cases e) hs1 (by simpa using c4) hnc hk
      split
      · rename_i hev
        have hev' : cap % 2 = 0 := Nat.eq_of_beq_eq_true hev
        split
        · rename_i hroom
          have hroom := Nat.le_of_ble_eq_true hroom
          rcases h0.slice_inv with ⟨rfl, rfl, rfl, rfl⟩ | ⟨i, o, p, c', rfl, hp, rfl, rfl⟩ | ⟨i, o, p, c', ee, rfl, hp, hc, _⟩ | ⟨i, o, p, a', ee, rfl, hp, _, hc, _⟩
          · have hn0 : n = 0 := by omega
            refine sim_congr (append_room (w := w) (base := none) (sCap := 0) hC hst hxt c1 hinf hlr (by omega)) ?_
            refine sim_bind (sim_cells h1 hn1) ?_
            intro ρ1 s1 w1 new new' _ _
            dsimp only
            rw [hn0]
            exact sim_pure .snil
          · have e0 : 2 * c' / 2 = c' := by omega
            rw [e0] at hroom
            refine sim_congr (append_room (w := w) (base := some ⟨p.block, p.base + o, none⟩) (sCap := c') hC hst hxt c1 hinf hlr hroom) ?_
            refine sim_bind (sim_cells h1 hn1) ?_
            intro ρ1 s1 w1 new new' e1 hnew
            dsimp only
            refine sim_bind (sim_storeN (AddrRel.add ⟨p, e1.at_ _ _ hp, rfl, rfl⟩ _) hnew) ?_
            intro ρ2 s2 w2 _ _ e2 _
            exact sim_pure (.slx (e2.at_ _ _ (e1.at_ _ _ hp)))
          · omega
          · omega
        · rename_i hroom
          have hroom' : ¬ sLen + n ≤ cap / 2 := by intro h; rw [Nat.ble_eq_true_of_le h] at hroom; cases hroom
          rcases h0.slice_inv with ⟨rfl, rfl, rfl, rfl⟩ | ⟨i, o, p, c', rfl, hp, rfl, rfl⟩ | ⟨i, o, p, c', ee, rfl, hp, hc, _⟩ | ⟨i, o, p, a', ee, rfl, hp, _, hc, _⟩
          · exact hgrow .snil (by omega) (by intro i e; cases e)
          · exact hgrow (.slx hp) (by omega) (by intro i e; cases e)
          · omega
          · omega
      · rename_i hev
        have hev' : ¬ cap % 2 = 0 := by intro e; rw [e] at hev; cases hev
        cases n with
        | zero =>
          dsimp only
          rcases h0.slice_inv with ⟨rfl, rfl, rfl, rfl⟩ | ⟨i, o, p, c', rfl, hp, rfl, rfl⟩ | ⟨i, o, p, c', ee, rfl, hp, hc, ho, hn, rfl⟩ | ⟨i, o, p, a', ee, rfl, hp, rfl, hc, rfl⟩
          · omega
          · omega
          · refine sim_congr (append_room (w := w) (base := some ⟨p.block, p.base + o, none⟩) (sCap := c') hC hst hxt c1 hinf hlr (by omega)) ?_
            refine sim_pre (run_cells_zero hlen h1 w) ?_
            refine sim_pre (y := ()) rfl ?_
            rw [hc]
            exact sim_pure (.slu hp ho hn)
          · refine sim_congr (append_room (w := w) (base := some a') (sCap := 0) hC hst hxt c1 hinf hlr (by omega)) ?_
            refine sim_pre (run_cells_zero hlen h1 w) ?_
            refine sim_pre (y := ()) rfl ?_
            rw [hc]
            exact sim_pure (.slz hp)
        | succ k =>
          dsimp only
          split
          · rename_i a hes
            have hes' : cap / 2 = inf.size := Nat.eq_of_beq_eq_true hes
            rcases h0.slice_inv with ⟨h9, _⟩ | ⟨i, o, p, c', h9, hp, rfl, rfl⟩ | ⟨i, o, p, c', ee, h9, hp, hc, ho, hn, rfl⟩ | ⟨i, o, p, a', ee, h9, hp, rfl, hc, rfl⟩
            · cases h9
            · omega
            · cases h9
              have hee : ee = inf.size := by omega
              subst hee
              by_cases hroom : sLen + (k + 1) ≤ c'
              · refine sim_congr (append_room (w := w) (base := some ⟨p.block, p.base + o, none⟩) (sCap := c') hC hst hxt c1 hinf hlr hroom) ?_
                exact sim_regrow_room hp h1 ho hn1 hs1 hroom
              · exact hgrow (by rw [hc]; exact .slu hp ho hn) hroom (by intro i' e'; cases e'; exact ⟨o, p, hp, _, _, rfl⟩)
            · cases h9
              exact hgrow (by rw [hc]; exact .slz hp) (by omega) (by intro i' e'; cases e'; exact ⟨o, p, hp, _, _, rfl⟩)
          · exact sim_fail
    · exact sim_fail
  · rename_i e d k items fc n hst hxt hlen
    have := sim_append_list (s := s) (w := w) (Pm := Pm) (P := P) (ty := ty) hC h0 h1 hst hxt hlen
    unfold aappend at this
    rw [hst, hxt, hlen] at this
    exact this
  · exact sim_fail
end
end
end Go.Proofs.BhE
