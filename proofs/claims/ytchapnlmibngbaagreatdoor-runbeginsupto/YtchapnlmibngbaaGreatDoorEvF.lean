/- The closed run's operations: structs, addresses, lengths, append, copy, make. -/
import Derived.Test.YtchapnlmibngbaaGreatDoorEvE
set_option linter.all false
namespace Go.Proofs.BhE
open Go
noncomputable section

section
variable {P : Program} {C : Ctx} {Pm : Nat → Prop} {ρ : Rho} {s : AS} {w : World}

/-! ### 1. Addresses -/
def afieldAddr (C : Ctx) (t : TypeId) (x : Value) (f : Nat) : Option Value :=
  match C.und t, x with
  | some (.struct fs), .pointer (some a) =>
    match fs.toList[f]? with
    | none => none
    | some fd =>
      match C.inf fd.type with
      | none => none
      | some i => match i.size with
        | 0 => none
        | _ + 1 => some (.pointer (some (a.add fd.offset)))
  | some (.struct fs), .func (.method m) cells _ =>
    match fs.toList[f]? with
    | none => none
    | some fd =>
      match C.inf fd.type with
      | none => none
      | some i => match i.size with
        | 0 => none
        | _ + 1 => some (.func (.method m) (cells.toList.drop fd.offset).toArray #[])
  | _, _ => none
theorem afieldAddr_run (hC : C.Ok P) {t : TypeId} {x x' r : Value} {f : Nat} (h : afieldAddr C t x f = some r) (hx : VRel ρ x x') (w : World) :
    ∃ r', (Instr.fieldAt t x' f).run P w = .ok r' w ∧ VRel ρ r r' := by
  unfold afieldAddr at h
  split at h
  · rename_i fs a ht
    split at h
    · cases h
    rename_i fd hfd
    split at h
    · cases h
    rename_i i hi
    split at h
    · cases h
    rename_i n hn
    cases h
    obtain ⟨a', rfl, ha⟩ := hx.ptr_some
    refine ⟨_, ?_, (ha.add fd.offset).val⟩
    unfold Instr.fieldAt
    rw [Sem.run_bind, run_underlying (hC.und _ _ ht)]
    dsimp only
    have hfd' : fs[f]? = some fd := by simpa using hfd
    rw [hfd']
    dsimp only
    unfold Instr.sureAddr
    dsimp only
    rw [Sem.run_bind]
    simp only [pure, Sem.run]
    rw [Sem.run_bind]
    unfold fieldPlace
    rw [Sem.run_bind, run_size hC hi]
    dsimp only
    rw [if_neg (by omega)]
    rfl
  · rename_i fs m cells _ ht
    split at h
    · cases h
    rename_i fd hfd
    split at h
    · cases h
    rename_i i hi
    split at h
    · cases h
    rename_i n hn
    cases h
    cases hx with
    | @fptr _ b off _ c e' fr hfz hr =>
    have hrel : VRel ρ (.func (.method m) (cells.toList.drop fd.offset).toArray #[]) (.pointer (some ⟨b, off + fd.offset, none⟩)) := by
      refine .fptr hfz ?_
      have := hr.drop fd.offset
      rw [cutC_drop] at this
      simpa using this
    refine ⟨_, ?_, hrel⟩
    unfold Instr.fieldAt
    rw [Sem.run_bind, run_underlying (hC.und _ _ ht)]
    dsimp only
    have hfd' : fs[f]? = some fd := by simpa using hfd
    rw [hfd']
    dsimp only
    unfold Instr.sureAddr
    dsimp only
    rw [Sem.run_bind]
    simp only [pure, Sem.run]
    rw [Sem.run_bind]
    unfold fieldPlace
    rw [Sem.run_bind, run_size hC hi]
    dsimp only
    rw [if_neg (by omega), add_spot]
    rfl
  · cases h

def aindexAddr (C : Ctx) (t : TypeId) (x ix : Value) : Option Value :=
  match ix with
  | .int _ i =>
    match C.und t, x with
    | some (.slice e), .slice (some a) len _ =>
      match C.inf e with
      | none => none
      | some inf => if 0 ≤ i ∧ i < (len : Int) then some (.pointer (some (a.add (i.toNat * inf.size)))) else none
    | some (.array len e), .pointer (some a) =>
      match C.inf e with
      | none => none
      | some inf => if 0 ≤ i ∧ i < (len : Int) then some (.pointer (some (a.add (i.toNat * inf.size)))) else none
    | some (.slice e), .func (.yield _) items _ =>
      match C.inf e with
      | none => none
      | some inf => if 0 ≤ i then match items.toList[i.toNat]? with
        | none => none
        | some v => match Nat.beq v.cells.toList.length inf.size with
          | true => some (.func (.method "") v.cells #[])
          | false => none
        else none
    | _, _ => none
  | _ => none
theorem aindexAddr_run (hC : C.Ok P) {t : TypeId} {x x' ix ix' r : Value} (h : aindexAddr C t x ix = some r) (hx : VRel ρ x x') (hix : VRel ρ ix ix') (w : World) :
    ∃ r', (Instr.indexAt t x' ix').run P w = .ok r' w ∧ VRel ρ r r' := by
  unfold aindexAddr at h
  split at h
  · cases hix
    split at h
    · rename_i k i _ _ e a len c ht
      split at h
      · cases h
      rename_i inf hinf
      split at h
      · rename_i hb
        cases h
        have key : ∀ a' c', AddrRel ρ a a' → ∃ r', (Instr.indexAt t (.slice (some a') len c') (.int k i)).run P w = .ok r' w ∧ VRel ρ (.pointer (some (a.add (i.toNat * inf.size)))) r' := by
          intro a' c' ha
          refine ⟨_, ?_, (ha.add (i.toNat * inf.size)).val⟩
          unfold Instr.indexAt
          rw [Sem.run_bind]
          simp only [asIntOf, pure, Sem.run]
          rw [Sem.run_bind, run_underlying (hC.und _ _ ht)]
          dsimp only
          rw [Sem.run_bind]
          simp only [Sem.run]
          rw [Sem.run_bind, run_underlying (hC.und _ _ ht)]
          dsimp only
          rw [if_pos hb, Sem.run_bind, run_size hC hinf]
          rfl
        rcases hx.slice_inv with ⟨h0, _⟩ | ⟨i', o, p, c', h0, hp, _, rfl⟩ | ⟨i', o, p, c', ee, h0, hp, _, _, _, rfl⟩ | ⟨i', o, p, a', ee, h0, hp, hn, _, rfl⟩
        · cases h0
        · cases h0
          exact key _ _ ⟨p, hp, rfl, rfl⟩
        · cases h0
          exact key _ _ ⟨p, hp, rfl, rfl⟩
        · omega
      · cases h
    · rename_i k i _ _ len e a ht
      split at h
      · cases h
      rename_i inf hinf
      split at h
      · rename_i hb
        cases h
        obtain ⟨a', rfl, ha⟩ := hx.ptr_some
        refine ⟨_, ?_, (ha.add (i.toNat * inf.size)).val⟩
        unfold Instr.indexAt
        rw [Sem.run_bind]
        simp only [asIntOf, pure, Sem.run]
        rw [Sem.run_bind, run_underlying (hC.und _ _ ht)]
        simp only [Instr.sureAddr, pure]
        rw [Sem.run_bind]
        simp only [Sem.run]
        rw [Sem.run_bind]
        simp only [Sem.run]
        rw [Sem.run_bind, run_underlying (hC.und _ _ ht)]
        dsimp only
        rw [if_pos hb, Sem.run_bind, run_size hC hinf]
        rfl
      · cases h
    · rename_i k i _ _ e kk items _ ht
      split at h
      · cases h
      rename_i inf hinf
      split at h
      case isFalse => cases h
      rename_i h0
      split at h
      · cases h
      rename_i v hv
      split at h
      case h_2 => cases h
      rename_i hsz1
      cases h
      have hlt : i.toNat < items.toList.length := (List.getElem?_eq_some_iff.1 hv).1
      cases hx with
      | listz hk _ _ => simp at hlt
      | @list _ b off cap sz _ c e' fr hfz hsz hr hcap hk hpu =>
      have hs : sz = inf.size := by rw [← hsz v (List.mem_of_getElem? hv)]; exact Nat.eq_of_beq_eq_true hsz1
      subst hs
      have hb : 0 ≤ i ∧ i < (items.toList.length : Int) := ⟨h0, by omega⟩
      have hrel : VRel ρ (.func (.method "") v.cells #[]) (.pointer (some ⟨b, off + i.toNat * inf.size, none⟩)) := by
        refine .fptr hfz ?_
        have h1 := (hr.drop (i.toNat * inf.size)).take inf.size
        have h2 : (i.toNat + 1) * inf.size ≤ items.toList.length * inf.size := Nat.mul_le_mul_right _ (by omega)
        rw [Nat.succ_mul] at h2
        rw [cutC_drop, cutC_take _ _ _ _ (by omega), ← flatC_nth hsz hv] at h1
        rw [hsz v (List.mem_of_getElem? hv)]
        exact h1
      refine ⟨_, ?_, hrel⟩
      unfold Instr.indexAt
      rw [Sem.run_bind]
      simp only [asIntOf, pure, Sem.run]
      rw [Sem.run_bind, run_underlying (hC.und _ _ ht)]
      dsimp only
      rw [Sem.run_bind]
      simp only [Sem.run]
      rw [Sem.run_bind, run_underlying (hC.und _ _ ht)]
      dsimp only
      rw [if_pos hb, Sem.run_bind, run_size hC hinf]
      dsimp only
      rw [add_spot]
      rfl
    · cases h
  · cases h

/-! ### 2. Parts -/
def isAggD : TypeDesc → Bool
  | .struct _ => true
  | .array _ _ => true
  | _ => false
theorem run_isAgg (hC : C.Ok P) {t : TypeId} {d : TypeDesc} (h : C.und t = some d) (w : World) : (isAgg t).run P w = .ok (isAggD d) w := by
  unfold isAgg
  rw [Sem.run_bind, run_underlying (hC.und _ _ h)]
  cases d <;> rfl
def apartO (C : Ctx) (t : TypeId) (cs : List Value) (off : Nat) : Option Value :=
  match C.und t with
  | none => none
  | some d => match isAggD d with
    | true => match C.inf t with
      | none => none
      | some i => some (.agg ((cs.drop off).take i.size).toArray)
    | false => cs[off]?
theorem apartO_run (hC : C.Ok P) {t : TypeId} {cs : List Value} {cs' : Array Value} {off : Nat} {r : Value} (h : apartO C t cs off = some r) (hc : VRels ρ cs cs'.toList) (w : World) :
    ∃ r', (part t cs' off).run P w = .ok r' w ∧ VRel ρ r r' := by
  unfold apartO at h
  split at h
  · cases h
  rename_i d hd
  unfold part
  rw [Sem.run_bind, run_isAgg hC hd]
  split at h
  · rename_i hag
    split at h
    · cases h
    rename_i i hi
    cases h
    rw [hag]
    simp only [if_true]
    rw [Sem.run_bind, run_size hC hi]
    refine ⟨_, rfl, .agg ?_⟩
    simp only [Array.toList_extract, List.extract_eq_take_drop]
    have : off + i.size - off = i.size := by omega
    rw [this]
    exact (hc.drop off).take i.size
  · rename_i hag
    rw [hag]
    simp only [Bool.false_eq_true, if_false]
    obtain ⟨v', hv', hr⟩ := hc.get _ _ h
    have hv2 : cs'[off]? = some v' := by simpa using hv'
    rw [hv2]
    exact ⟨v', rfl, hr⟩

def afield (C : Ctx) (t : TypeId) (x : Value) (f : Nat) : Option Value :=
  match C.und t, x with
  | some (.struct fs), .agg cs =>
    match fs.toList[f]? with
    | none => none
    | some fd => apartO C fd.type cs.toList fd.offset
  | _, _ => none
theorem afield_run (hC : C.Ok P) {t : TypeId} {x x' r : Value} {f : Nat} (h : afield C t x f = some r) (hx : VRel ρ x x') (w : World) :
    ∃ r', (Instr.field t x' f).run P w = .ok r' w ∧ VRel ρ r r' := by
  unfold afield at h
  split at h
  · rename_i fs cs ht
    split at h
    · cases h
    rename_i fd hfd
    cases hx with
    | agg hc =>
      obtain ⟨r', hr, hrel⟩ := apartO_run hC h hc w
      refine ⟨r', ?_, hrel⟩
      unfold Instr.field
      rw [Sem.run_bind, run_underlying (hC.und _ _ ht)]
      dsimp only
      have hfd' : fs[f]? = some fd := by simpa using hfd
      rw [hfd']
      dsimp only
      unfold asAgg
      dsimp only
      rw [Sem.run_bind]
      exact hr
  · cases h

def aindex (C : Ctx) (t : TypeId) (x ix : Value) : Option Value :=
  match ix with
  | .int _ i =>
    match C.und t, x with
    | some .string, .string s =>
      if 0 ≤ i then match s.data.toList[i.toNat]? with
        | some b => some (.int .u8 b.toNat)
        | none => none
      else none
    | some (.array len e), .agg cs =>
      match C.inf e with
      | none => none
      | some inf => if 0 ≤ i ∧ i < (len : Int) then apartO C e cs.toList (i.toNat * inf.size) else none
    | _, _ => none
  | _ => none
theorem aindex_run (hC : C.Ok P) {t : TypeId} {x x' ix ix' r : Value} (h : aindex C t x ix = some r) (hx : VRel ρ x x') (hix : VRel ρ ix ix') (w : World) :
    ∃ r', (Instr.index t x' ix').run P w = .ok r' w ∧ VRel ρ r r' := by
  unfold aindex at h
  split at h
  · cases hix
    split at h
    · rename_i k i _ _ y ht
      cases hx
      split at h
      · rename_i h0
        split at h
        · rename_i b hb
          cases h
          refine ⟨_, ?_, .int _ _⟩
          unfold Instr.index
          rw [Sem.run_bind]
          simp only [asIntOf, pure, Sem.run]
          rw [Sem.run_bind, run_underlying (hC.und _ _ ht)]
          dsimp only
          rw [if_pos h0]
          have : y[i.toNat]? = some b := by
            have hlt : i.toNat < y.data.toList.length := by
              rcases Nat.lt_or_ge i.toNat y.data.toList.length with h3 | h3
              · exact h3
              · rw [List.getElem?_eq_none h3] at hb; cases hb
            have hlt' : i.toNat < y.size := by simpa using hlt
            rw [Go.ByteArray.getElem?_lt' _ _ hlt']
            rw [List.getElem?_eq_getElem hlt] at hb
            cases hb
            rfl
          rw [this]
          rfl
        · cases h
      · cases h
    · rename_i k i _ _ len e cs ht
      cases hx with
      | agg hc =>
        split at h
        · cases h
        rename_i inf hinf
        split at h
        · rename_i hb
          obtain ⟨r', hr, hrel⟩ := apartO_run hC h hc w
          refine ⟨r', ?_, hrel⟩
          unfold Instr.index
          rw [Sem.run_bind]
          simp only [asIntOf, pure, Sem.run]
          rw [Sem.run_bind, run_underlying (hC.und _ _ ht)]
          dsimp only
          rw [if_pos hb, Sem.run_bind, run_size hC hinf]
          exact hr
        · cases h
    · cases h
  · cases h

def aextract (x : Value) (i : Nat) : Option Value :=
  match x with
  | .tuple vs => vs.toList[i]?
  | _ => none
theorem aextract_run {x x' r : Value} {i : Nat} (h : aextract x i = some r) (hx : VRel ρ x x') (w : World) : ∃ r', (Instr.extract x' i).run P w = .ok r' w ∧ VRel ρ r r' := by
  unfold aextract at h
  split at h
  · cases hx with
    | tuple hc =>
      obtain ⟨v', hv', hr⟩ := hc.get _ _ h
      refine ⟨v', ?_, hr⟩
      unfold Instr.extract
      rename_i c'
      have : c'[i]? = some v' := by simpa using hv'
      simp only [this]
      rfl
  · cases h

def alen (C : Ctx) (t : TypeId) (x : Value) : Option Value :=
  match C.und t, x with
  | some .string, .string s => some (.int .i64 s.size)
  | some (.slice _), .slice _ n _ => some (.int .i64 n)
  | some (.array n _), _ => some (.int .i64 n)
  | some (.slice _), .func (.yield _) items _ => some (.int .i64 items.toList.length)
  | _, _ => none
theorem alen_run (hC : C.Ok P) {t : TypeId} {ts : Array TypeId} {ty : TypeId} {x x' r : Value} (ht0 : ts[0]? = some t) (h : alen C t x = some r) (hx : VRel ρ x x') (w : World) :
    (Builtin.len_ ts ty #[x']).run P w = .ok r w ∧ VRel ρ r r := by
  unfold alen at h
  unfold Builtin.len_
  simp only [ht0]
  split at h
  · rename_i ht; cases h; cases hx
    refine ⟨?_, .int _ _⟩
    show (do let d ← underlying t; _ : Sem Value).run P w = _
    rw [Sem.run_bind, run_underlying (hC.und _ _ ht)]
    rfl
  · rename_i ht; cases h
    refine ⟨?_, .int _ _⟩
    show (do let d ← underlying t; _ : Sem Value).run P w = _
    rw [Sem.run_bind, run_underlying (hC.und _ _ ht)]
    rcases hx.slice_inv with ⟨_, rfl, _, rfl⟩ | ⟨i', o, p, c', h0, hp, _, rfl⟩ | ⟨i', o, p, c', ee, h0, hp, _, _, _, rfl⟩ | ⟨i', o, p, a', ee, h0, hp, rfl, _, rfl⟩ <;> rfl
  · rename_i ht; cases h
    refine ⟨?_, .int _ _⟩
    show (do let d ← underlying t; _ : Sem Value).run P w = _
    rw [Sem.run_bind, run_underlying (hC.und _ _ ht)]
    rfl
  · rename_i ht; cases h
    refine ⟨?_, .int _ _⟩
    show (do let d ← underlying t; _ : Sem Value).run P w = _
    rw [Sem.run_bind, run_underlying (hC.und _ _ ht)]
    cases hx <;> rfl
  · cases h
end
end
end Go.Proofs.BhE
