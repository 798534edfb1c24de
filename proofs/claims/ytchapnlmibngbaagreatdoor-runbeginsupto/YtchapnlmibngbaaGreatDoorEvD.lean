/- The closed run's operations, one by one: each is the model's own. -/
import Derived.Test.YtchapnlmibngbaaGreatDoorEvC
import Derived.Laws.Tables
import Derived.Laws.Strings
import Derived.Great.BuildSlice
set_option linter.all false
namespace Go.Proofs.BhE
open Go
noncomputable section

section
variable {P : Program} {C : Ctx} {Pm : Nat → Prop} {ρ : Rho} {s : AS} {w : World}
theorem sim_opt {α β : Type} {o : Option α} {c : Sem β} {R : Rho → α → β → Prop} (h : ∀ x, o = some x → ∃ y, c.run P w = .ok y w ∧ R ρ x y) :
    SimAt P Pm ρ s w (A.ofOption o) c R :=
  sim_ofOption fun x e => by
    intro z s' hz hp
    cases hz
    obtain ⟨y, hy, hr⟩ := h x e
    exact ⟨ρ, y, w, hy, Step.refl hp, hr⟩
end

/-! ### 1. Numbers, texts, bools -/
def aint (op : BinOp) (k : IntKind) (a b : Int) : Option Value :=
  match op with
  | .add => some (.int k (k.wrap (a + b)))
  | .sub => some (.int k (k.wrap (a - b)))
  | .mul => some (.int k (k.wrap (a * b)))
  | .quo => if b = 0 then none else some (.int k (k.wrap (a.tdiv b)))
  | .rem => if b = 0 then none else some (.int k (a.tmod b))
  | .and => some (.int k (k.wrap (BitVec.ofInt k.bits a &&& BitVec.ofInt k.bits b).toNat))
  | .or => some (.int k (k.wrap (BitVec.ofInt k.bits a ||| BitVec.ofInt k.bits b).toNat))
  | .xor => some (.int k (k.wrap (BitVec.ofInt k.bits a ^^^ BitVec.ofInt k.bits b).toNat))
  | .andNot => some (.int k (k.wrap (BitVec.ofInt k.bits a &&& ~~~ BitVec.ofInt k.bits b).toNat))
  | .eql => some (.bool (a == b))
  | .neq => some (.bool (a != b))
  | .lss => some (.bool (decide (a < b)))
  | .leq => some (.bool (decide (a ≤ b)))
  | .gtr => some (.bool (decide (a > b)))
  | .geq => some (.bool (decide (a ≥ b)))
  | _ => none

theorem aint_run {P : Program} {op : BinOp} {k : IntKind} {a b : Int} {v : Value} (t : TypeId) (h : aint op k a b = some v) (w : World) :
    (binOp op t (.int k a) (.int k b)).run P w = .ok v w ∧ ∀ ρ, VRel ρ v v := by
  cases op <;> simp only [aint] at h <;> first
    | cases h; done
    | (cases h; exact ⟨by simp [binOp, Op.intArith, Op.intBits, Op.intCmp], fun ρ => by first | exact .int _ _ | exact .bool _⟩)
    | (split at h
       · cases h
       · rename_i hb
         cases h
         exact ⟨by simp [binOp, Op.intDiv, hb], fun ρ => .int _ _⟩)

def ashift (op : BinOp) (k : IntKind) (a b : Int) : Option Value :=
  if b < 0 then none else
  match op with
  | .shl => some (.int k (k.wrap (a * 2 ^ (min b.toNat k.bits))))
  | .shr => some (.int k (a.fdiv (2 ^ (min b.toNat k.bits))))
  | _ => none
theorem ashift_run {P : Program} {op : BinOp} {k k' : IntKind} {a b : Int} {v : Value} (t : TypeId) (h : ashift op k a b = some v) (w : World) :
    (binOp op t (.int k a) (.int k' b)).run P w = .ok v w ∧ ∀ ρ, VRel ρ v v := by
  unfold ashift at h
  split at h
  · cases h
  · rename_i hb
    cases op <;> simp only [] at h <;> cases h <;> exact ⟨by simp [binOp, Op.shift, hb], fun ρ => .int _ _⟩

def sameBytes : List UInt8 → List UInt8 → Bool
  | [], [] => true
  | a :: x, b :: y => match Nat.beq a.toNat b.toNat with
    | true => sameBytes x y
    | false => false
  | _, _ => false
theorem sameBytes_eq : ∀ (x y : List UInt8), sameBytes x y = (x == y)
  | [], [] => rfl
  | [], _ :: _ => rfl
  | _ :: _, [] => rfl
  | a :: x, b :: y => by
    unfold sameBytes
    rw [List.cons_beq_cons]
    split
    · rename_i h
      have : a = b := UInt8.toNat_inj.1 (Nat.eq_of_beq_eq_true h)
      subst this
      simp [sameBytes_eq x y]
    · rename_i h
      have : a ≠ b := by rintro rfl; simp at h
      simp [this]

def astr (op : BinOp) (x y : ByteArray) : Option Value :=
  match op with
  | .add => match Nat.ble (x.size + y.size) 140737488355328 with
    | true => some (.string ⟨(x.data.toList ++ y.data.toList).toArray⟩)
    | false => none
  | .eql => some (.bool (sameBytes x.data.toList y.data.toList))
  | .neq => some (.bool (!sameBytes x.data.toList y.data.toList))
  | .lss => some (.bool (Op.bytesLess x.data.toList y.data.toList))
  | .leq => some (.bool (Op.bytesLess x.data.toList y.data.toList || sameBytes x.data.toList y.data.toList))
  | .gtr => some (.bool (!(Op.bytesLess x.data.toList y.data.toList || sameBytes x.data.toList y.data.toList)))
  | .geq => some (.bool (!Op.bytesLess x.data.toList y.data.toList))
  | _ => none
theorem astr_run {P : Program} {op : BinOp} {x y : ByteArray} {v : Value} (t : TypeId) (h : astr op x y = some v) (w : World) :
    (binOp op t (.string x) (.string y)).run P w = .ok v w ∧ ∀ ρ, VRel ρ v v := by
  have hb : ∀ b : Bool, ∀ ρ, VRel ρ (.bool b) (.bool b) := fun b ρ => .bool b
  cases op <;> simp only [astr] at h
  all_goals try (cases h; done)
  case add =>
    split at h
    · rename_i hb
      cases h
      have h1 := Nat.le_of_ble_eq_true hb
      have h2 : ¬ ((x.size + y.size : Nat) : Int) > IntKind.i64.max := by
        have : IntKind.i64.max = 9223372036854775807 := by decide
        rw [this]; omega
      refine ⟨?_, fun ρ => .str _⟩
      have e : x ++ y = (⟨(x.data.toList ++ y.data.toList).toArray⟩ : ByteArray) := by
        cases x; cases y
        simp [ByteArray.ext_iff]
      simp only [binOp, Op.stringOp]
      rw [if_neg h2, e]
      rfl
    · cases h
  all_goals
    cases h
    refine ⟨?_, hb _⟩
    simp only [binOp, Op.stringOp, Go.ByteArray.toList_eq, sameBytes_eq]
    rfl

/-! ### 2. Are two the same? -/
def aeq (C : Ctx) (t : TypeId) (a b : Value) : Option Bool :=
  match C.und t, a, b with
  | some .bool, .bool a, .bool b => some (a == b)
  | some (.pointer _), .pointer none, .pointer b => some b.isNone
  | some (.pointer _), .pointer (some _), .pointer none => some false
  | some (.pointer e), .pointer (some a), .pointer (some b) =>
    match C.inf e with
    | some i => match i.size, Nat.beq a.block b.block, a.spot, b.spot with
      | _ + 1, true, none, none => some (Nat.beq a.off b.off)
      | _, _, _, _ => none
    | none => none
  | some (.interface _), .nilIface, .iface _ _ => some false
  | some (.interface _), .iface _ _, .nilIface => some false
  | some (.interface _), .nilIface, .nilIface => some true
  | some (.slice _), .slice none _ _, .slice b _ _ => some b.isNone
  | some (.slice _), .slice (some _) _ _, .slice none _ _ => some false
  | some (.slice _), .func (.yield k) items _, .slice none _ _ => match items.toList with
    | _ :: _ => some false
    | [] => match Nat.ble 4 k with
      | true => some false
      | false => none
  | some (.func _ _ _), .nilFunc, .nilFunc => some true
  | some (.func _ _ _), .nilFunc, .func (.func _) _ _ => some false
  | some (.func _ _ _), .func (.func _) _ _, .nilFunc => some false
  | some (.pointer _), .pointer none, .func (.method _) _ _ => some false
  | some (.pointer _), .func (.method _) _ _, .pointer none => some false
  | _, _, _ => none

theorem equal_once (t : TypeId) (a b : Value) : Op.equal t a b = Op.equalIn (9999 + 1) t a b := rfl
theorem VRel.ptr_some {ρ : Rho} {a : Addr} {v : Value} (h : VRel ρ (.pointer (some a)) v) : ∃ a', v = .pointer (some a') ∧ AddrRel ρ a a' := by
  cases h with
  | ptr h => exact ⟨_, rfl, _, h, rfl, rfl⟩
theorem aeq_run {P : Program} {C : Ctx} (hC : C.Ok P) {ρ : Rho} {t : TypeId} {a b a' b' : Value} {r : Bool} (h : aeq C t a b = some r) (ha : VRel ρ a a') (hb : VRel ρ b b') (w : World) :
    (Op.equal t a' b').run P w = .ok r w := by
  have hd : ∀ d, C.und t = some d → ∀ w, (underlying t).run P w = .ok d w := fun d e w => run_underlying (hC.und _ _ e) w
  rw [equal_once]
  unfold aeq at h
  split at h
  all_goals try (cases h; done)
  case h_4 =>
    rename_i e a1 a2 hu
    split at h
    · rename_i i hi
      split at h
      · rename_i n hsz hbl hs1 hs2
        cases h
        obtain ⟨a1', rfl, p, h1, h2, rfl⟩ := ha.ptr_some
        obtain ⟨a2', rfl, q, h3, h4, rfl⟩ := hb.ptr_some
        have hbe : a1.block = a2.block := Nat.eq_of_beq_eq_true hbl
        rw [← hbe, h1] at h3
        cases h3
        have hsize : ∀ w, (sizeOf e).run P w = .ok i.size w := by
          intro w
          unfold sizeOf
          rw [Sem.run_bind, run_typeInfo (hC.inf _ _ hi)]
          rfl
        unfold Op.equalIn
        rw [Sem.run_bind, hd _ hu]
        dsimp only
        rw [Sem.run_bind, hsize]
        dsimp only
        rw [if_pos (by omega)]
        unfold sameAddr
        simp only [beq_self_eq_true, if_true]
        show Result.ok _ _ = _
        congr 1
        rw [Bool.eq_iff_iff]
        simp
      · cases h
    · cases h
  case h_10 =>
    rename_i k items _ n c hu
    have hne : ∃ m n cap, a' = .slice (some m) n cap ∧ r = false := by
      cases ha with
      | list h1 h2 h3 h4 h5 h6 =>
        split at h
        · cases h; exact ⟨_, _, _, rfl, rfl⟩
        · split at h
          · cases h; exact ⟨_, _, _, rfl, rfl⟩
          · cases h
      | @listz _ cap a h1 h2 h3 =>
        split at h
        · rename_i hl; cases hl
        · split at h
          · rename_i h4
            cases h
            cases a with
            | none => exact absurd rfl (h3 (Nat.le_of_ble_eq_true h4))
            | some a => exact ⟨_, _, _, rfl, rfl⟩
          · cases h
    obtain ⟨m, n', cap, rfl, rfl⟩ := hne
    cases hb
    unfold Op.equalIn
    rw [Sem.run_bind, hd _ hu]
    rfl
  all_goals (cases ha <;> cases hb <;> cases h <;> (unfold Op.equalIn; rw [Sem.run_bind, hd _ (by assumption)]; rfl))

/-! ### 3. Operations of two -/
def notGuarded : Value → Value → Bool
  | .nilIface, .nilIface => false
  | .agg _, .agg _ => false
  | _, _ => true
def isConstO : Operand → Bool
  | .const _ => true
  | _ => false
def abin (C : Ctx) (op : BinOp) (t : TypeId) (x y : Operand) (a b : Value) : Option Value :=
  match notGuarded a b || isConstO x || isConstO y with
  | false => none
  | true =>
  match op, a, b with
  | .shl, .int k a, .int _ b => ashift .shl k a b
  | .shr, .int k a, .int _ b => ashift .shr k a b
  | op, .int k a, .int k' b => if k = k' then aint op k a b else none
  | op, .string a, .string b => astr op a b
  | .eql, .agg _, _ => none
  | .neq, .agg _, _ => none
  | .eql, a, b => (aeq C t a b).map .bool
  | .neq, a, b => (aeq C t a b).map fun r => .bool (!r)
  | _, _, _ => none

theorem notGuarded_rel {ρ : Rho} {a a' b b' : Value} (ha : VRel ρ a a') (hb : VRel ρ b b') : notGuarded a' b' = notGuarded a b := by
  cases ha <;> cases hb <;> rfl

theorem eqGuard_run {P : Program} (op : BinOp) (t : TypeId) (x y : Operand) (a b : Value) (w : World) (h : (notGuarded a b || isConstO x || isConstO y) = true)
    (hagg : (op = .eql ∨ op = .neq) → ∀ c, a ≠ .agg c) : (eqGuard op t x y a b).run P w = .ok () w := by
  have hc : notGuarded a b = false → (isConstO x || isConstO y) = true := by
    intro e
    rw [e] at h
    simpa using h
  clear h
  cases op
  case eql =>
    have ha := hagg (.inl rfl)
    clear hagg
    cases a <;> cases b <;> first
      | rfl
      | exact absurd rfl (ha _)
      | (have h1 := hc rfl
         clear hc
         cases x <;> cases y <;> first | rfl | simp [isConstO] at h1)
  case neq =>
    have ha := hagg (.inr rfl)
    clear hagg
    cases a <;> cases b <;> first
      | rfl
      | exact absurd rfl (ha _)
      | (have h1 := hc rfl
         clear hc
         cases x <;> cases y <;> first | rfl | simp [isConstO] at h1)
  all_goals rfl

theorem aeq_notAgg {C : Ctx} {t : TypeId} {a b : Value} {r : Bool} (h : aeq C t a b = some r) : ∀ c, a ≠ .agg c := by
  unfold aeq at h
  split at h
  all_goals first
    | (cases h; done)
    | (intro c e; cases e)

theorem binOp_eql {C : Ctx} {ρ : Rho} {t : TypeId} {a b a' b' : Value} {r : Bool} (h : aeq C t a b = some r) (ha : VRel ρ a a') (hb : VRel ρ b b') :
    binOp .eql t a' b' = (do pure (.bool (← Op.equal t a' b'))) ∧ binOp .neq t a' b' = (do pure (.bool (!(← Op.equal t a' b')))) := by
  unfold aeq at h
  split at h
  all_goals try (cases h; done)
  all_goals (cases ha <;> cases hb <;> exact ⟨rfl, rfl⟩)

theorem abin_run {P : Program} {C : Ctx} (hC : C.Ok P) {ρ : Rho} {op : BinOp} {t : TypeId} {x y : Operand} {a b a' b' v : Value} (h : abin C op t x y a b = some v)
    (ha : VRel ρ a a') (hb : VRel ρ b b') (w : World) :
    ((do eqGuard op t x y a' b'; binOp op t a' b') : Sem Value).run P w = .ok v w ∧ ∀ ρ, VRel ρ v v := by
  unfold abin at h
  split at h
  · cases h
  rename_i hg
  rw [← notGuarded_rel ha hb] at hg
  rw [Sem.run_bind]
  split at h
  · cases ha; cases hb
    rw [eqGuard_run _ _ _ _ _ _ _ hg (by simp)]
    exact ashift_run t h w
  · cases ha; cases hb
    rw [eqGuard_run _ _ _ _ _ _ _ hg (by simp)]
    exact ashift_run t h w
  · cases ha; cases hb
    rw [eqGuard_run _ _ _ _ _ _ _ hg (by simp)]
    split at h
    · rename_i e; subst e; exact aint_run t h w
    · cases h
  · cases ha; cases hb
    rw [eqGuard_run _ _ _ _ _ _ _ hg (by simp)]
    exact astr_run t h w
  · cases h
  · cases h
  · simp only [Option.map_eq_some_iff] at h
    obtain ⟨r, hr, rfl⟩ := h
    have hq := aeq_run hC hr ha hb w
    rw [eqGuard_run _ _ _ _ _ _ _ hg (by intro _ c e; subst e; cases ha; exact aeq_notAgg hr _ rfl)]
    refine ⟨?_, fun ρ => .bool _⟩
    dsimp only
    rw [(binOp_eql hr ha hb).1, Sem.run_bind, hq]
    rfl
  · simp only [Option.map_eq_some_iff] at h
    obtain ⟨r, hr, rfl⟩ := h
    have hq := aeq_run hC hr ha hb w
    rw [eqGuard_run _ _ _ _ _ _ _ hg (by intro _ c e; subst e; cases ha; exact aeq_notAgg hr _ rfl)]
    refine ⟨?_, fun ρ => .bool _⟩
    dsimp only
    rw [(binOp_eql hr ha hb).2, Sem.run_bind, hq]
    rfl
  · cases h
end
end Go.Proofs.BhE
