/- The closed run's operations on slices, structs, addresses; append. -/
import Derived.Test.YtchapnlmibngbaaGreatDoorEvD
import Derived.Laws.Slices
import Derived.Laws.Strings2
import Derived.Laws.MakeOwn
set_option linter.all false
namespace Go.Proofs.BhE
open Go
noncomputable section

section
variable {P : Program} {C : Ctx} {Pm : Nat → Prop} {ρ : Rho} {s : AS} {w : World}

/-! ### 1. One operand -/
def aun (op : UnOp) (v : Value) : Option Value :=
  match op, v with
  | .neg, .int k n => some (.int k (k.wrap (0 - n)))
  | .xor, .int k n => aint .xor k (if k.signed then -1 else k.max) n
  | .not, .bool b => some (.bool (!b))
  | _, _ => none
theorem aun_run {op : UnOp} {v v' r : Value} (h : aun op v = some r) (hv : VRel ρ v v') (w : World) : (Op.unary op v').run P w = .ok r w ∧ VRel ρ r r := by
  unfold aun at h
  split at h
  · cases h; cases hv; exact ⟨rfl, .int _ _⟩
  · cases hv
    simp only [aint] at h
    cases h
    exact ⟨rfl, .int _ _⟩
  · cases h; cases hv; exact ⟨rfl, .bool _⟩
  · cases h

def aconv (C : Ctx) (src dst : TypeId) (v : Value) : Option Value :=
  match C.und src, C.und dst, v with
  | some _, some (.int k), .int _ n => some (.int k (k.wrap n))
  | some _, some .string, .string s => some (.string s)
  | _, _, _ => none
theorem aconv_run (hC : C.Ok P) {src dst : TypeId} {v v' r : Value} (h : aconv C src dst v = some r) (hv : VRel ρ v v') (w : World) :
    (convert src dst v').run P w = .ok r w ∧ VRel ρ r r := by
  unfold aconv at h
  split at h
  · rename_i d1 k k' n h1 h2
    cases h; cases hv
    refine ⟨?_, .int _ _⟩
    unfold convert
    rw [Sem.run_bind, run_underlying (hC.und _ _ h1)]
    dsimp only
    rw [Sem.run_bind, run_underlying (hC.und _ _ h2)]
    rfl
  · rename_i d1 x h1 h2
    cases h; cases hv
    refine ⟨?_, .str _⟩
    unfold convert
    rw [Sem.run_bind, run_underlying (hC.und _ _ h1)]
    dsimp only
    rw [Sem.run_bind, run_underlying (hC.und _ _ h2)]
    cases d1 <;> rfl
  · cases h

/-! ### 2. Bounds -/
def abnd (x : Option Value) (dflt y : Nat) : Option Nat :=
  match x with
  | none => some dflt
  | some (.int _ i) => if 0 ≤ i ∧ i ≤ (y : Int) then some i.toNat else none
  | some _ => none

inductive ORel (ρ : Rho) : Option Value → Option Value → Prop
  | none : ORel ρ none none
  | some {v v' : Value} : VRel ρ v v' → ORel ρ (some v) (some v')

theorem run_sliceBound' {k : IntKind} {i : Int} {y : Nat} (code : BoundsCode) (h : 0 ≤ i ∧ i ≤ (y : Int)) (w : World) : (Instr.sliceBound (.int k i) y code).run P w = .ok i.toNat w := by
  unfold Instr.sliceBound
  rw [Sem.run_bind]
  simp only [asIntOf, Sem.run, pure]
  rw [if_pos h]
  rfl

theorem abnd_le {x : Option Value} {d y r : Nat} (h : abnd x d y = some r) (hd : d ≤ y) : r ≤ y := by
  unfold abnd at h
  split at h
  · cases h; exact hd
  · split at h
    · rename_i hi; cases h; omega
    · cases h
  · cases h

/-- The three bounds, of a capacity that is known. -/
theorem sliceBounds_run {lo hi mx lo' hi' mx' : Option Value} {len cap l h m : Nat} (isS : Bool) (hlo : ORel ρ lo lo') (hhi : ORel ρ hi hi') (hmx : ORel ρ mx mx')
    (h1 : abnd mx cap cap = some m) (h2 : abnd hi len m = some h) (h3 : abnd lo 0 h = some l) (h4 : mx.isSome = true → hi.isSome = true) (w : World) :
    (Instr.sliceBounds isS len cap lo' hi' mx').run P w = .ok (l, h, m) w := by
  have key : ∀ (x x' : Option Value) (d y r : Nat) (code : BoundsCode), ORel ρ x x' → abnd x d y = some r → ∀ {β : Type} (k : Nat → Sem β),
      (match x' with
        | some v => (do let m ← Instr.sliceBound v y code; k m)
        | none => (do let m ← (pure d : Sem Nat); k m)).run P w = (k r).run P w := by
    intro x x' d y r code hx hr β k
    cases hx with
    | none =>
      simp only [abnd] at hr
      cases hr
      rfl
    | some hv =>
      unfold abnd at hr
      split at hr
      · contradiction
      · rename_i e; cases e; cases hv
        split at hr
        · rename_i hb; cases hr
          dsimp only
          rw [Sem.run_bind, run_sliceBound' _ hb]
        · cases hr
      · cases hr
  unfold Instr.sliceBounds
  dsimp only
  cases hmx with
  | none =>
    obtain rfl : cap = m := by simpa [abnd] using h1
    show Sem.run P (match hi', (none : Option Value) with
      | some v, some val => _
      | some v, none => _
      | none, none => _
      | none, some val => _) w = _
    have := fun k => key hi hi' len cap h (if isS = true then BoundsCode.sliceAcap else BoundsCode.sliceAlen) hhi h2 (β := Nat × Nat × Nat) k
    cases hhi with
    | none =>
      obtain rfl : len = h := by simpa [abnd] using h2
      dsimp only
      exact key lo lo' 0 len l _ hlo h3 _
    | some hv =>
      dsimp only at this ⊢
      rw [this]
      exact key lo lo' 0 h l _ hlo h3 _
  | some hv3 =>
    have this3 := fun k => key _ _ cap cap m (if isS = true then BoundsCode.slice3Acap else BoundsCode.slice3Alen) (.some hv3) h1 (β := Nat × Nat × Nat) k
    dsimp only at this3 ⊢
    rw [this3]
    cases hhi with
    | none => simp at h4
    | some hv2 =>
      have this2 := fun k => key _ _ len m h BoundsCode.slice3B (.some hv2) h2 (β := Nat × Nat × Nat) k
      dsimp only at this2 ⊢
      rw [this2]
      exact key lo lo' 0 h l _ hlo h3 _

/-! ### 2b. Settled slices -/
def cutK (k : Nat) (full : Bool) : Nat := match Nat.blt k 2, full with
  | true, true => 1
  | true, false => 0
  | false, true => 3
  | false, false => 2
theorem cutK_full (k : Nat) (b : Bool) : fullK (cutK k b) = b := by
  unfold cutK
  cases Nat.blt k 2 <;> cases b <;> rfl
theorem cutK_four (k : Nat) (b : Bool) : ¬ 4 ≤ cutK k b := by
  unfold cutK
  cases Nat.blt k 2 <;> cases b <;> decide
theorem cutK_lt {k : Nat} {b : Bool} (h : cutK k b < 2) : k < 2 := by
  unfold cutK at h
  cases e : Nat.blt k 2 with
  | true => rwa [Nat.blt_eq] at e
  | false => rw [e] at h; cases b <;> simp at h
def headOk (n : Nat) : List Value → Bool
  | [] => true
  | v :: _ => Nat.beq v.cells.toList.length n
theorem headOk_spec {n sz : Nat} {l : List Value} (h : headOk n l = true) (hs : ∀ v ∈ l, v.cells.toList.length = sz) (hl : 0 < l.length) : sz = n := by
  cases l with
  | nil => simp at hl
  | cons v l => rw [← hs v List.mem_cons_self]; exact Nat.eq_of_beq_eq_true h
theorem flatC_length {sz : Nat} : ∀ {l : List Value}, (∀ v ∈ l, v.cells.toList.length = sz) → (flatC l).length = l.length * sz
  | [], _ => by simp [flatC]
  | v :: l, h => by
    have h1 := h v List.mem_cons_self
    have h2 := flatC_length (l := l) fun u hu => h u (List.mem_cons_of_mem _ hu)
    unfold flatC
    rw [List.length_append, h1, h2, List.length_cons, Nat.succ_mul, Nat.add_comm]
theorem flatC_drop {sz : Nat} : ∀ {l : List Value} (n : Nat), (∀ v ∈ l, v.cells.toList.length = sz) → flatC (l.drop n) = (flatC l).drop (n * sz)
  | l, 0, _ => by simp
  | [], n + 1, _ => by simp [flatC]
  | v :: l, n + 1, h => by
    have h1 := h v List.mem_cons_self
    have h2 := flatC_drop (l := l) n fun u hu => h u (List.mem_cons_of_mem _ hu)
    rw [List.drop_succ_cons, h2]
    conv => rhs; unfold flatC
    have h3 : v.cells.toList.drop (n * sz + sz) = [] := List.drop_eq_nil_of_le (by omega)
    rw [List.drop_append, h1, Nat.succ_mul, show n * sz + sz - sz = n * sz by omega, h3, List.nil_append]
theorem flatC_take {sz : Nat} : ∀ {l : List Value} (n : Nat), (∀ v ∈ l, v.cells.toList.length = sz) → flatC (l.take n) = (flatC l).take (n * sz)
  | l, 0, _ => by simp [flatC]
  | [], n + 1, _ => by simp [flatC]
  | v :: l, n + 1, h => by
    have h1 := h v List.mem_cons_self
    have h2 := flatC_take (l := l) n fun u hu => h u (List.mem_cons_of_mem _ hu)
    rw [List.take_succ_cons]
    unfold flatC
    have h3 : v.cells.toList.take (n * sz + sz) = v.cells.toList := List.take_of_length_le (by omega)
    rw [h2, List.take_append, h1, Nat.succ_mul, show n * sz + sz - sz = n * sz by omega, h3]
theorem flatC_nth {sz : Nat} {l : List Value} {n : Nat} {v : Value} (h : ∀ v ∈ l, v.cells.toList.length = sz) (hv : l[n]? = some v) : v.cells.toList = ((flatC l).drop (n * sz)).take sz := by
  rw [← flatC_drop n h]
  have hlt : n < l.length := (List.getElem?_eq_some_iff.1 hv).1
  have hg : l[n] = v := (List.getElem?_eq_some_iff.1 hv).2
  have hd : l.drop n = v :: l.drop (n + 1) := by rw [List.drop_eq_getElem_cons hlt, hg]
  rw [hd]
  unfold flatC
  rw [List.take_left' (h v (List.mem_of_getElem? hv))]
/-- A part of a settled slice. -/
theorem list_part {sz off l m : Nat} {items : List Value} {c : Array Value} (hs : ∀ v ∈ items, v.cells.toList.length = sz) (hr : VRels ρ (flatC items) (cutC c off (items.length * sz))) (h : l + m ≤ items.length) :
    VRels ρ (flatC ((items.drop l).take m)) (cutC c (off + l * sz) (m * sz)) ∧ (∀ v ∈ (items.drop l).take m, v.cells.toList.length = sz) ∧ ((items.drop l).take m).length = m := by
  have hs2 : ∀ v ∈ items.drop l, v.cells.toList.length = sz := fun v hv => hs v (List.mem_of_mem_drop hv)
  refine ⟨?_, fun v hv => hs2 v (List.mem_of_mem_take hv), by simp; omega⟩
  rw [flatC_take m hs2, flatC_drop l hs]
  have := (hr.drop (l * sz)).take (m * sz)
  rw [cutC_drop, cutC_take] at this
  · exact this
  · have : (l + m) * sz ≤ items.length * sz := Nat.mul_le_mul_right _ h
    rw [Nat.add_mul] at this
    omega

/-! ### 3. x[l:h:m] -/
def aslice (C : Ctx) (t : TypeId) (x : Value) (lo hi mx : Option Value) : Option Value :=
  match C.und t, x with
  | some .string, .string s =>
    match mx with
    | some _ => none
    | none =>
    match abnd hi s.size s.size with
    | none => none
    | some h =>
    match abnd lo 0 h with
    | none => none
    | some l => some (.string ⟨((s.data.toList.drop l).take (h - l)).toArray⟩)
  | some (.slice e), .slice a len cap =>
    match C.inf e with
    | none => none
    | some i =>
    match Nat.beq (cap % 2) 0 with
    | true =>
      match mx.isSome, hi.isSome with
      | true, false => none
      | _, _ =>
      match abnd mx (cap / 2) (cap / 2) with
      | none => none
      | some m =>
      match abnd hi len m with
      | none => none
      | some h =>
      match abnd lo 0 h with
      | none => none
      | some l => some (.slice (if m = l then a else a.map (·.add (l * i.size))) (h - l) (2 * (m - l)))
    | false =>
      match mx with
      | some _ => none
      | none =>
      match Nat.beq (cap / 2) i.size with
      | false => none
      | true =>
      match abnd hi len len with
      | none => none
      | some h =>
      match abnd lo 0 h with
      | none => none
      | some l => some (.slice (a.map (·.add (l * i.size))) (h - l) cap)
  | some (.slice e), .func (.yield k) items _ =>
    match C.inf e with
    | none => none
    | some i =>
    match headOk i.size items.toList with
    | false => none
    | true =>
    match mx.isSome, hi.isSome with
    | true, false => none
    | full, _ =>
    match abnd mx items.toList.length items.toList.length with
    | none => none
    | some m =>
    match abnd hi items.toList.length m with
    | none => none
    | some h =>
    match abnd lo 0 h with
    | none => none
    | some l => some (.func (.yield (cutK k (full && Nat.beq h m))) ((items.toList.drop l).take (h - l)).toArray #[])
  | _, _ => none

theorem VRel.slice_inv {a : Option Addr} {n c : Nat} {v : Value} (h : VRel ρ (.slice a n c) v) :
    (a = none ∧ n = 0 ∧ c = 0 ∧ v = .slice none 0 0) ∨
    (∃ i o p c', a = some ⟨i, o, none⟩ ∧ ρ i = some p ∧ c = 2 * c' ∧ v = .slice (some ⟨p.block, p.base + o, none⟩) n c') ∨
    (∃ i o p c' e, a = some ⟨i, o, none⟩ ∧ ρ i = some p ∧ c = 2 * e + 1 ∧ o + c' * e ≤ p.total ∧ n ≤ c' ∧ v = .slice (some ⟨p.block, p.base + o, none⟩) n c') ∨
    (∃ i o p a' e, a = some ⟨i, o, none⟩ ∧ ρ i = some p ∧ n = 0 ∧ c = 2 * e + 1 ∧ v = .slice (some a') 0 0) := by
  cases h with
  | snil => exact .inl ⟨rfl, rfl, rfl, rfl⟩
  | slx h1 => exact .inr (.inl ⟨_, _, _, _, rfl, h1, rfl, rfl⟩)
  | slu h1 h2 h3 => exact .inr (.inr (.inl ⟨_, _, _, _, _, rfl, h1, rfl, h2, h3, rfl⟩))
  | slz h1 => exact .inr (.inr (.inr ⟨_, _, _, _, _, rfl, h1, rfl, rfl, rfl⟩))

theorem run_size (hC : C.Ok P) {t : TypeId} {i : TypeInfo} (h : C.inf t = some i) (w : World) : (sizeOf t).run P w = .ok i.size w := by
  unfold sizeOf
  rw [Sem.run_bind, run_typeInfo (hC.inf _ _ h)]
  rfl

theorem slice_run (hC : C.Ok P) {t e : TypeId} {i : TypeInfo} (ht : C.und t = some (.slice e)) (hinf : C.inf e = some i) {a : Option Addr} {len cap l h m : Nat} {lo hi mx : Option Value}
    (hb : ∀ w, (Instr.sliceBounds true len cap lo hi mx).run P w = .ok (l, h, m) w) (w : World) :
    (Instr.sliceAt t (.slice a len cap) lo hi mx).run P w = .ok (.slice (if m = l then a else a.map (·.add (l * i.size))) (h - l) (m - l)) w := by
  unfold Instr.sliceAt
  rw [Sem.run_bind, run_underlying (hC.und _ _ ht)]
  dsimp only
  unfold Instr.slice
  rw [Sem.run_bind, run_underlying (hC.und _ _ ht)]
  dsimp only
  rw [Sem.run_bind, hb]
  dsimp only
  rw [Sem.run_bind, run_size hC hinf]
  rfl

theorem aslice_run (hC : C.Ok P) {t : TypeId} {x x' r : Value} {lo hi mx lo' hi' mx' : Option Value} (h : aslice C t x lo hi mx = some r) (hx : VRel ρ x x')
    (hlo : ORel ρ lo lo') (hhi : ORel ρ hi hi') (hmx : ORel ρ mx mx') (w : World) : ∃ r', (Instr.sliceAt t x' lo' hi' mx').run P w = .ok r' w ∧ VRel ρ r r' := by
  unfold aslice at h
  split at h
  · rename_i y ht
    cases hx
    split at h
    · cases h
    cases hmx
    split at h
    · cases h
    rename_i hh e2
    split at h
    · cases h
    rename_i l e3
    cases h
    refine ⟨_, ?_, .str _⟩
    unfold Instr.sliceAt
    rw [Sem.run_bind, run_underlying (hC.und _ _ ht)]
    dsimp only
    unfold Instr.slice
    rw [Sem.run_bind, run_underlying (hC.und _ _ ht)]
    dsimp only
    simp only [Option.isSome_none, Bool.false_eq_true, if_false]
    show Sem.run P (Instr.sliceBounds false y.size y.size lo' hi' none >>= _) w = _
    rw [Sem.run_bind, sliceBounds_run false hlo hhi .none (m := y.size) rfl e2 e3 (by simp)]
    show Result.ok _ _ = _
    congr 2
    cases y with
    | mk d =>
      cases d with
      | mk y => rw [show (ByteArray.mk ⟨y⟩) = ByteArray.mk y.toArray from rfl, Go.ByteArray.extract_mk]
  · rename_i e a len cap ht
    split at h
    · cases h
    rename_i inf hinf
    split at h
    · rename_i hcap
      split at h
      · cases h
      rename_i hn
      split at h
      · cases h
      rename_i m e1
      split at h
      · cases h
      rename_i hh e2
      split at h
      · cases h
      rename_i l e3
      cases h
      have hcap' : cap % 2 = 0 := Nat.eq_of_beq_eq_true hcap
      have h4 : mx.isSome = true → hi.isSome = true := by
        intro a; cases b : hi.isSome
        · exact absurd b (hn a)
        · rfl
      have hm : m ≤ cap / 2 := abnd_le e1 (Nat.le_refl _)
      rcases hx.slice_inv with ⟨rfl, rfl, rfl, rfl⟩ | ⟨i, o, p, c', rfl, hp, rfl, rfl⟩ | ⟨i, o, p, c', ee, rfl, hp, hc, _⟩ | ⟨i, o, p, a', ee, rfl, hp, _, hc, _⟩
      · refine ⟨_, slice_run hC ht hinf (sliceBounds_run true hlo hhi hmx e1 e2 e3 h4) w, ?_⟩
        have hm0 : m = 0 := by omega
        have hh0 : hh ≤ m := abnd_le e2 (Nat.zero_le _)
        have hl0 : l ≤ hh := abnd_le e3 (Nat.zero_le _)
        have e5 : m - l = 0 := by omega
        have e6 : hh - l = 0 := by omega
        rw [e5, e6]
        have : (if m = l then (none : Option Addr) else Option.map (fun x : Addr => x.add (l * inf.size)) none) = none := by split <;> rfl
        rw [this]
        exact .snil
      · have e0 : 2 * c' / 2 = c' := by omega
        rw [e0] at e1
        refine ⟨_, slice_run hC ht hinf (sliceBounds_run true hlo hhi hmx e1 e2 e3 h4) w, ?_⟩
        split
        · exact .slx hp
        · simp only [Option.map_some, add_spot, Nat.add_assoc]
          exact .slx hp
      · omega
      · omega
    · rename_i hcap
      have hcap' : ¬ cap % 2 = 0 := by intro e; rw [e] at hcap; cases hcap
      split at h
      · cases h
      cases hmx
      split at h
      · cases h
      rename_i hes
      have hes' : cap / 2 = inf.size := Nat.eq_of_beq_eq_true hes
      split at h
      · cases h
      rename_i hh e2
      split at h
      · cases h
      rename_i l e3
      cases h
      rcases hx.slice_inv with ⟨rfl, rfl, rfl, rfl⟩ | ⟨i, o, p, c', rfl, hp, rfl, rfl⟩ | ⟨i, o, p, c', ee, rfl, hp, hc, ho, hn, rfl⟩ | ⟨i, o, p, a', ee, rfl, hp, hn, hc, rfl⟩
      · omega
      · omega
      · have hee : ee = inf.size := by omega
        subst hee
        have hl : hh ≤ len := abnd_le e2 (Nat.le_refl _)
        have hlh : l ≤ hh := abnd_le e3 (Nat.zero_le _)
        have e2' : abnd hi len c' = some hh := by
          unfold abnd at e2 ⊢
          split at e2
          · exact e2
          · split at e2
            · rename_i hb; rw [if_pos (by omega)]; exact e2
            · cases e2
          · cases e2
        refine ⟨_, slice_run hC ht hinf (sliceBounds_run true hlo hhi .none (m := c') rfl e2' e3 (by simp)) w, ?_⟩
        simp only [Option.map_some, add_spot]
        split
        · rename_i hcl
          have : hh - l = 0 := by omega
          rw [this, hc]
          have e7 : c' - l = 0 := by omega
          rw [e7]
          exact .slz hp
        · rw [hc, Nat.add_assoc]
          refine .slu hp ?_ (by omega)
          have e8 : l + (c' - l) = c' := by omega
          have : l * inf.size + (c' - l) * inf.size = c' * inf.size := by rw [← Nat.add_mul, e8]
          omega
      · have hh0 : hh = 0 := by have := abnd_le e2 (Nat.le_refl _); omega
        subst hh0
        have hl0 : l = 0 := by have := abnd_le e3 (Nat.zero_le _); omega
        subst hl0
        refine ⟨_, slice_run hC ht hinf (sliceBounds_run (cap := 0) true hlo hhi .none (m := 0) (show abnd (none : Option Value) 0 0 = some 0 from rfl) (by rw [hn] at e2; exact e2) e3 (by simp)) w, ?_⟩
        simp only [Nat.sub_self, if_true, Option.map_some, add_spot, hc]
        exact .slz hp
  · rename_i e k items _ ht
    split at h
    · cases h
    rename_i inf hinf
    split at h
    · cases h
    rename_i hok
    split at h
    · cases h
    rename_i full hn
    have h4 : mx.isSome = true → hi.isSome = true := by
      intro a; cases b : hi.isSome
      · exact absurd b (hn a)
      · rfl
    clear hn
    split at h
    · cases h
    rename_i m e1
    split at h
    · cases h
    rename_i hh e2
    split at h
    · cases h
    rename_i l e3
    cases h
    have hm : m ≤ items.toList.length := abnd_le e1 (Nat.le_refl _)
    have hll : l ≤ hh := abnd_le e3 (Nat.zero_le _)
    have hbound : ∀ {a : Option Addr} {c' : Nat}, items.toList.length ≤ c' → x' = .slice a items.toList.length c' → ∃ m', m ≤ m' ∧ (mx.isSome = true → m' = m) ∧ hh ≤ m' ∧ hh ≤ items.toList.length ∧ (c' = 0 → m' = 0) ∧
        (Instr.sliceAt t x' lo' hi' mx').run P w = .ok (.slice (if m' = l then a else a.map (·.add (l * inf.size))) (hh - l) (m' - l)) w := by
      rintro a c' hc rfl
      cases hmx with
      | none =>
        obtain rfl : items.toList.length = m := by simpa [abnd] using e1
        have hl : hh ≤ items.toList.length := abnd_le e2 (Nat.le_refl _)
        refine ⟨c', hc, by simp, by omega, hl, id, slice_run hC ht hinf (sliceBounds_run true hlo hhi .none (m := c') rfl ?_ e3 (by simp)) w⟩
        unfold abnd at e2 ⊢
        split at e2
        · exact e2
        · split at e2
          · rw [if_pos (by omega)]; exact e2
          · cases e2
        · cases e2
      | some hv =>
        have hisS := h4 rfl
        have hl : hh ≤ m := by
          cases hhi with
          | none => simp at hisS
          | some hv2 =>
            unfold abnd at e2
            split at e2
            · contradiction
            · split at e2
              · cases e2; omega
              · cases e2
            · cases e2
        have e2' : abnd hi items.toList.length m = some hh := e2
        refine ⟨m, Nat.le_refl _, fun _ => rfl, hl, by omega, fun h => by omega, slice_run hC ht hinf (sliceBounds_run true hlo hhi (.some hv) (m := m) ?_ e2' e3 (fun _ => hisS)) w⟩
        unfold abnd at e1 ⊢
        split at e1
        · contradiction
        · split at e1
          · rw [if_pos (by omega)]; exact e1
          · cases e1
        · cases e1
    have hfull : ∀ m' : Nat, (mx.isSome = true → m' = m) → (fullK (cutK k (mx.isSome && Nat.beq hh m)) = true → m' = hh) := by
      intro m' h1 h2
      rw [cutK_full, Bool.and_eq_true] at h2
      rw [h1 h2.1, Nat.eq_of_beq_eq_true h2.2]
    cases hx with
    | @listz _ cap a hk hk2 hk3 =>
      obtain ⟨m', q1, q2, q3, q3', q7, q4⟩ := hbound (Nat.zero_le _) rfl
      have q5 : hh = 0 := by simpa using q3'
      refine ⟨_, q4, ?_⟩
      have q6 : hh - l = 0 := by omega
      rw [q6]
      refine .listz (fun h1 => ?_) (fun h1 => ?_) (fun h1 => absurd h1 (cutK_four _ _))
      · have := hfull m' q2 h1
        omega
      · cases a with
        | some a => split at h1 <;> cases h1
        | none =>
          have h2 := hk2 rfl
          have := q7 h2
          omega
    | @list _ b off cap sz _ c e' fr hfz hsz hr hcap hk hpu =>
      obtain ⟨m', q1, q2, q3, q3', _, q4⟩ := hbound hcap rfl
      refine ⟨_, q4, ?_⟩
      by_cases h0 : hh - l = 0
      · rw [h0]
        refine .listz (fun h1 => ?_) (fun h1 => ?_) (fun h1 => absurd h1 (cutK_four _ _))
        · have := hfull m' q2 h1
          omega
        · split at h1 <;> cases h1
      · have hsz' := headOk_spec hok hsz (by omega)
        subst hsz'
        obtain ⟨r1, r2, r3⟩ := list_part (l := l) (m := hh - l) hsz hr (by omega)
        rw [if_neg (by omega)]
        simp only [Option.map_some, add_spot]
        have := VRel.list (ρ := ρ) (k := cutK k (mx.isSome && Nat.beq hh m)) (cap := m' - l) (items := ((items.toList.drop l).take (hh - l)).toArray) hfz r2 (by simpa only [r3] using r1) (by rw [r3]; omega) (fun h1 => by have := hfull m' q2 h1; rw [r3]; omega) (fun h1 => by
          refine Idss.of fun v hv => (hpu (cutK_lt h1)).mem v ?_
          rw [flatC_take _ (fun v hv => hsz v (List.mem_of_mem_drop hv)), flatC_drop _ hsz] at hv
          exact List.mem_of_mem_drop (List.mem_of_mem_take hv))
        simp only [r3] at this
        exact this
  · cases h
end
end
end Go.Proofs.BhE
