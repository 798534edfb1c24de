/- The closed run's copy, interfaces, maps of whole numbers. -/
import Derived.Test.YtchapnlmibngbaaGreatDoorEvH
import Derived.Lib.ConvBytes
set_option linter.all false
namespace Go.Proofs.BhE
open Go
noncomputable section

section
variable {P : Program} {C : Ctx} {Pm : Nat → Prop} {ρ : Rho} {s : AS} {w : World}

/-! ### 0. The bytes of a string -/
def bytesV (l : List UInt8) : List Value := l.map fun b => .int .u8 b.toNat
def astrBytes (C : Ctx) (src dst : TypeId) (s : ByteArray) : A Value :=
  match C.und src, C.und dst with
  | some _, some (.slice e) => match C.und e with
    | some (.int .u8) => do
      let i ← anew (.row e (bytesV s.data.toList))
      pure (.slice (some ⟨i, 0, none⟩) s.data.toList.length (2 * 1 + 1))
    | _ => A.fail
  | _, _ => A.fail
theorem bytesV_rel (ρ : Rho) (l : List UInt8) : VRels ρ (bytesV l) (l.map fun b => Value.int .u8 b.toNat) := by
  unfold bytesV
  induction l with
  | nil => exact .nil
  | cons b l ih => exact .cons (.int _ _) ih
theorem sim_strBytes (hC : C.Ok P) (src dst : TypeId) (s0 : ByteArray) : SimAt P Pm ρ s w (astrBytes C src dst s0) (convert src dst (.string s0)) VRel := by
  unfold astrBytes
  split
  · rename_i u e hu hd
    split
    · rename_i he
      intro x s' h hp
      obtain ⟨i, s1, h1, h2⟩ := A.bindRun_some (a := anew (.row e (bytesV s0.data.toList))) (f := fun i => pure (Value.slice (some ⟨i, 0, none⟩) s0.data.toList.length (2 * 1 + 1))) h
      cases h1
      cases h2
      have hrun := Go.Lib.run_convert_string_bytes (P := P) w src dst e s0 (hC.und _ _ hu) (hC.und _ _ hd) (hC.und _ _ he)
      have hcap : s0.size ≤ grownCap w s0.size 0 e := by
        unfold grownCap Question.cut
        dsimp only
        omega
      have hρ : ρ s.n = none := hp.fresh s.n (Nat.le_refl _) (Nat.lt_succ_self _)
      let p : Place := ⟨w.heap.size, 0, grownCap w s0.size 0 e⟩
      have hlen : s0.data.toList.length = s0.size := by rw [Array.length_toList]; rfl
      have hcsz : (Go.Lib.bytesCells w e s0).size = grownCap w s0.size 0 e := by
        unfold Go.Lib.bytesCells
        simp
        have : s0.data.size = s0.size := rfl
        omega
      refine ⟨ρ.put s.n p, _, _, hrun, ?_, ?_⟩
      · refine Step.make hp (o := .row e (bytesV s0.data.toList)) rfl rfl ?_ (Nat.le_refl _) ?_ ?_ ?_ ?_ ?_
        · refine ⟨p, Go.Lib.bytesCells w e s0, by simp [Rho.put], ⟨_, Go.Lib.bytesWorld_at_new w e s0, .inr (Nat.le_refl _)⟩, ?_, ?_, ?_⟩
          · simp only [bytesV, List.length_map]
            rw [hlen]
            exact hcap
          · rw [hcsz]
            show 0 + grownCap w s0.size 0 e ≤ _
            omega
          · intro k v hk
            have hk2 := (bytesV_rel (ρ.put s.n p) s0.data.toList).get k v hk
            obtain ⟨v', h3, h4⟩ := hk2
            refine ⟨v', ?_, h4⟩
            have hkl : k < s0.data.toList.length := by
              rcases Nat.lt_or_ge k s0.data.toList.length with h5 | h5
              · exact h5
              · rw [List.getElem?_eq_none (by simpa using h5)] at h3; cases h3
            show (Go.Lib.bytesCells w e s0)[0 + k]? = _
            rw [Nat.zero_add]
            unfold Go.Lib.bytesCells
            rw [Array.getElem?_append_left (by simpa using hkl)]
            simpa using h3
        · intro b hb
          exact Go.Lib.bytesWorld_at_old w e s0 b hb
        · rw [Go.Lib.bytesWorld_size]; omega
        · rfl
        · rfl
        · rfl
      · rw [hlen]
        refine VRel.slu (p := p) (by simp [Rho.put]) ?_ hcap
        show 0 + grownCap w s0.size 0 e * 1 ≤ grownCap w s0.size 0 e
        omega
    · exact sim_fail
  · exact sim_fail

/-! ### 1. Copy -/
def acopy (C : Ctx) (dt : TypeId) (x0 x1 : Value) : A Value :=
  match C.und dt, x0, alenOf x1 with
  | some (.slice e), .slice base dLen _, some m =>
    match C.inf e with
    | none => A.fail
    | some inf =>
      match Nat.min m dLen with
      | 0 => pure (.int .i64 0)
      | k + 1 => do
        let new ← acells inf.size (k + 1) x1
        match base with
        | some a => do
          astoreN a new
          pure (.int .i64 (k + 1 : Nat))
        | none => A.fail
  | _, _, _ => A.fail
theorem sim_copy (hC : C.Ok P) {dt st ty : TypeId} {x0 x0' x1 x1' : Value} (h0 : VRel ρ x0 x0') (h1 : VRel ρ x1 x1') :
    SimAt P Pm ρ s w (acopy C dt x0 x1) (Builtin.copy_ #[dt, st] ty #[x0', x1']) VRel := by
  unfold acopy
  split
  · rename_i e base dLen cap m hdt hlen
    split
    · exact sim_fail
    rename_i inf hinf
    have hlr := alenOf_run (P := P) hlen h1 w
    have hu := Go.run_underlying (hC.und _ _ hdt)
    have hi := hC.inf _ _ hinf
    have key : ∀ base' c', (Builtin.copy_ #[dt, st] ty #[.slice base' dLen c', x1']).run P w = (do
        let cells ← Builtin.firstCells inf.size (Nat.min m dLen) x1'
        match base' with
        | some a => do
          storeCells a cells.toList
          pure (goInt (Nat.min m dLen))
        | none => pure (goInt (Nat.min m dLen)) : Sem Value).run P w := by
      intro base' c'
      cases base' <;> simp [Builtin.copy_, hu, sizeOf, typeInfo, hi, hlr]
    obtain ⟨base', c', rfl⟩ : ∃ base' c', x0' = .slice base' dLen c' := by
      rcases h0.slice_inv with ⟨rfl, rfl, rfl, rfl⟩ | ⟨i, o, p, c', rfl, hp, rfl, rfl⟩ | ⟨i, o, p, c', ee, rfl, hp, hc, _, _, rfl⟩ | ⟨i, o, p, a', ee, rfl, hp, rfl, hc, rfl⟩ <;> exact ⟨_, _, rfl⟩
    refine sim_congr (key base' c') ?_
    cases hk : Nat.min m dLen with
    | zero =>
      dsimp only
      refine sim_pre (run_cells_zero hlen h1 w) ?_
      cases base' with
      | none => exact sim_pure (.int _ _)
      | some a =>
        refine sim_pre (y := ()) rfl ?_
        exact sim_pure (.int _ _)
    | succ k =>
      dsimp only
      have hkm : k + 1 ≤ m := by rw [← hk]; exact Nat.min_le_left _ _
      have hkd : k + 1 ≤ dLen := by rw [← hk]; exact Nat.min_le_right _ _
      have hn1 : ∀ a m c, x1 = .slice a m c → k + 1 ≤ m := by
        intro a m c e; subst e; simp only [alenOf] at hlen; cases hlen; exact hkm
      refine sim_bind (sim_cells h1 hn1) ?_
      intro ρ1 s1 w1 new new' e1 hnew
      cases base with
      | none => exact sim_fail
      | some a =>
        have : ∃ a', base' = some a' ∧ AddrRel ρ1 a a' := by
          rcases (h0.ext e1).slice_inv with ⟨h9, _⟩ | ⟨i, o, p, c', h9, hp, _, h8⟩ | ⟨i, o, p, c', ee, h9, hp, hc, _, _, h8⟩ | ⟨i, o, p, a', ee, h9, hp, h7, hc, h8⟩
          · cases h9
          · cases h9; cases h8; exact ⟨_, rfl, p, hp, rfl, rfl⟩
          · cases h9; cases h8; exact ⟨_, rfl, p, hp, rfl, rfl⟩
          · omega
        obtain ⟨a', rfl, ha⟩ := this
        dsimp only
        refine sim_bind (sim_storeN ha hnew) ?_
        intro ρ2 s2 w2 _ _ e2 _
        exact sim_pure (.int _ _)
  · exact sim_fail

/-! ### 2. Interfaces -/
def isIfaceD : TypeDesc → Bool
  | .interface _ => true
  | _ => false
def amkIface (C : Ctx) (t : TypeId) (x : Value) : Option Value :=
  match C.und t with
  | none => none
  | some d => match isIfaceD d with
    | true => none
    | false => some (.iface t x)
theorem amkIface_run (hC : C.Ok P) {t : TypeId} {x x' r : Value} (h : amkIface C t x = some r) (hx : VRel ρ x x') (w : World) : (Instr.makeInterface t x').run P w = .ok (.iface t x') w ∧ VRel ρ r (.iface t x') := by
  unfold amkIface at h
  split at h
  · cases h
  rename_i d hd
  split at h
  · cases h
  rename_i hi
  cases h
  refine ⟨?_, .iface hx⟩
  unfold Instr.makeInterface
  rw [Sem.run_bind, run_underlying (hC.und _ _ hd)]
  cases d <;> first
    | rfl
    | simp [isIfaceD] at hi

def aassert (C : Ctx) (x : Value) (asserted : TypeId) : Option Value :=
  match C.und asserted, azeroO C asserted with
  | some d, some z =>
    match isIfaceD d with
    | true => none
    | false =>
      match x with
      | .nilIface => some (.tuple #[z, .bool false])
      | .iface t v => match Nat.beq t asserted with
        | true => some (.tuple #[v, .bool true])
        | false => some (.tuple #[z, .bool false])
      | _ => none
  | _, _ => none
theorem aassert_run (hC : C.Ok P) {x x' r : Value} {xt t : TypeId} (h : aassert C x t = some r) (hx : VRel ρ x x') (w : World) :
    ∃ r', (Instr.typeAssert x' xt t true).run P w = .ok r' w ∧ VRel ρ r r' := by
  unfold aassert at h
  split at h
  · rename_i d z hd hz
    split at h
    · cases h
    rename_i hi
    obtain ⟨it, hit, hiz, hzr⟩ := azeroO_spec hz
    have hzv : ∀ w, (zeroValue t).run P w = .ok z w := by
      intro w
      unfold zeroValue
      rw [Sem.run_bind, run_typeInfo (hC.inf _ _ hit)]
      dsimp only
      rw [hiz]
      rfl
    have hu := Go.run_underlying (hC.und _ _ hd)
    split at h
    · cases h
      cases hx
      refine ⟨_, ?_, .tuple (.cons (hzr ρ) (.cons (.bool false) .nil))⟩
      cases d <;> first
        | (simp [isIfaceD] at hi; done)
        | simp [Instr.typeAssert, hu, hzv]
    · rename_i u v
      cases hx with
      | iface hv =>
        split at h
        · rename_i e
          cases h
          have e := Nat.eq_of_beq_eq_true e
          subst e
          refine ⟨_, ?_, .tuple (.cons hv (.cons (.bool true) .nil))⟩
          cases d <;> first
            | (simp [isIfaceD] at hi; done)
            | simp [Instr.typeAssert, hu]
        · rename_i e
          cases h
          have e : ¬ u = t := by intro e'; subst e'; simp at e
          refine ⟨_, ?_, .tuple (.cons (hzr ρ) (.cons (.bool false) .nil))⟩
          cases d <;> first
            | (simp [isIfaceD] at hi; done)
            | simp [Instr.typeAssert, hu, hzv, e]
    · cases h
  · cases h
end
end
end Go.Proofs.BhE
