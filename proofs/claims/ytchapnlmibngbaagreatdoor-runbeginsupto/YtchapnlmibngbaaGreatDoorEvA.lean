/- Plain words for a run whose data are closed: a store by numbers, a state, what is one with a world. -/
import Derived.Orders
import Derived.Defers
import Derived.Recover
import Derived.Below
set_option linter.all false
namespace Go.Proofs.BhE
open Go
noncomputable section

/-! ### 1. A store by numbers -/
inductive Tr (α : Type) where
  | leaf
  | node (l : Tr α) (v : Option α) (r : Tr α)

/-- The list, built anew from its own ends: so that a kernel holds it written out. -/
def forceL {α β : Type} : List α → (List α → β) → β
  | [], k => k []
  | a :: l, k => forceL l fun l' => k (a :: l')
theorem forceL_eq {α β : Type} : ∀ (l : List α) (k : List α → β), forceL l k = k l
  | [], _ => rfl
  | a :: l, k => forceL_eq l fun l' => k (a :: l')

/-- Where a number stands in a store. -/
inductive Pos where
  | e
  | o (p : Pos)
  | i (p : Pos)
  deriving DecidableEq
def Pos.val : Pos → Nat
  | .e => 0
  | .o p => 2 * p.val + 1
  | .i p => 2 * p.val + 2
def Pos.ofF (f : Nat) : Nat → Pos :=
  Nat.rec (motive := fun _ => Nat → Pos) (fun _ => .e)
    (fun _ ih n => Bool.rec (Bool.rec (.i (ih (Nat.sub (Nat.div n 2) 1))) (.o (ih (Nat.div n 2))) (Nat.beq (Nat.mod n 2) 1)) .e (Nat.beq n 0)) f
def Pos.of (n : Nat) : Pos := Pos.ofF n n
theorem Pos.ofF_val : ∀ (f n : Nat), n ≤ f → (Pos.ofF f n).val = n := by
  intro f
  induction f with
  | zero => intro n h; obtain rfl : n = 0 := by omega
            rfl
  | succ f ih =>
    intro n h
    show (Bool.rec (Bool.rec (.i (Pos.ofF f (Nat.sub (Nat.div n 2) 1))) (.o (Pos.ofF f (Nat.div n 2))) (Nat.beq (Nat.mod n 2) 1)) Pos.e (Nat.beq n 0) : Pos).val = n
    cases hn : Nat.beq n 0 with
    | true => rw [Nat.eq_of_beq_eq_true hn]; rfl
    | false =>
      have hn' : n ≠ 0 := by rintro rfl; cases hn
      have hd : Nat.div n 2 = n / 2 := rfl
      have hm : Nat.mod n 2 = n % 2 := rfl
      cases hp : Nat.beq (Nat.mod n 2) 1 with
      | true =>
        have hp' := Nat.eq_of_beq_eq_true hp
        show 2 * (Pos.ofF f (Nat.div n 2)).val + 1 = n
        rw [ih _ (by omega)]
        omega
      | false =>
        have hp' : n % 2 ≠ 1 := by intro h0; rw [hm, h0] at hp; cases hp
        have hs : Nat.sub (Nat.div n 2) 1 = n / 2 - 1 := rfl
        show 2 * (Pos.ofF f (Nat.sub (Nat.div n 2) 1)).val + 2 = n
        rw [ih _ (by omega)]
        omega
theorem Pos.of_inj {n m : Nat} (h : Pos.of n = Pos.of m) : n = m := by
  rw [← Pos.ofF_val n n (Nat.le_refl n), ← Pos.ofF_val m m (Nat.le_refl m)]
  exact congrArg Pos.val h

namespace Tr
variable {α : Type}
def getP (p : Pos) : Tr α → Option α :=
  Pos.rec (motive := fun _ => Tr α → Option α) (fun t => Tr.rec none (fun _ v _ _ _ => v) t) (fun _ ih t => Tr.rec none (fun l _ _ _ _ => ih l) t) (fun _ ih t => Tr.rec none (fun _ _ r _ _ => ih r) t) p
def setP (p : Pos) : α → Tr α → Tr α :=
  Pos.rec (motive := fun _ => α → Tr α → Tr α) (fun x t => Tr.rec (.node .leaf (some x) .leaf) (fun l _ r _ _ => .node l (some x) r) t)
    (fun _ ih x t => Tr.rec (.node (ih x .leaf) none .leaf) (fun l v r _ _ => .node (ih x l) v r) t) (fun _ ih x t => Tr.rec (.node .leaf none (ih x .leaf)) (fun l v r _ _ => .node l v (ih x r)) t) p
theorem getP_leaf (p : Pos) : getP p (Tr.leaf : Tr α) = none := by cases p <;> rfl
theorem getP_setP : ∀ (p q : Pos) (x : α) (t : Tr α), getP q (setP p x t) = if q = p then some x else getP q t := by
  intro p
  induction p with
  | e =>
    intro q x t
    cases t <;> cases q <;> first
      | rfl
      | (rw [if_neg (by intro h; cases h)]; first
          | rfl
          | exact getP_leaf _)
  | o p ih =>
    intro q x t
    cases t with
    | leaf =>
      cases q with
      | e => rw [if_neg (by intro h; cases h)]; rfl
      | o q =>
        show getP q (setP p x .leaf) = _
        rw [ih, getP_leaf, getP_leaf]
        by_cases e : q = p
        · subst e; rw [if_pos rfl, if_pos rfl]
        · rw [if_neg e, if_neg (by intro h; cases h; exact e rfl)]
      | i q => rw [if_neg (by intro h; cases h)]; show getP q .leaf = _; rw [getP_leaf, getP_leaf]
    | node l v r =>
      cases q with
      | e => rw [if_neg (by intro h; cases h)]; rfl
      | o q =>
        show getP q (setP p x l) = if _ then _ else getP q l
        rw [ih]
        by_cases e : q = p
        · subst e; rw [if_pos rfl, if_pos rfl]
        · rw [if_neg e, if_neg (by intro h; cases h; exact e rfl)]
      | i q => rw [if_neg (by intro h; cases h)]; rfl
  | i p ih =>
    intro q x t
    cases t with
    | leaf =>
      cases q with
      | e => rw [if_neg (by intro h; cases h)]; rfl
      | i q =>
        show getP q (setP p x .leaf) = _
        rw [ih, getP_leaf, getP_leaf]
        by_cases e : q = p
        · subst e; rw [if_pos rfl, if_pos rfl]
        · rw [if_neg e, if_neg (by intro h; cases h; exact e rfl)]
      | o q => rw [if_neg (by intro h; cases h)]; show getP q .leaf = _; rw [getP_leaf, getP_leaf]
    | node l v r =>
      cases q with
      | e => rw [if_neg (by intro h; cases h)]; rfl
      | i q =>
        show getP q (setP p x r) = if _ then _ else getP q r
        rw [ih]
        by_cases e : q = p
        · subst e; rw [if_pos rfl, if_pos rfl]
        · rw [if_neg e, if_neg (by intro h; cases h; exact e rfl)]
      | o q => rw [if_neg (by intro h; cases h)]; rfl
def get (t : Tr α) (n : Nat) : Option α := getP (Pos.of n) t
theorem get_leaf (n : Nat) : (Tr.leaf : Tr α).get n = none := getP_leaf _
def set (t : Tr α) (n : Nat) (x : α) : Tr α := setP (Pos.of n) x t
theorem get_set (t : Tr α) (n m : Nat) (x : α) : (t.set n x).get m = if m = n then some x else t.get m := by
  unfold get set
  rw [getP_setP]
  by_cases e : m = n
  · subst e; rw [if_pos rfl, if_pos rfl]
  · rw [if_neg e, if_neg fun h => e (Pos.of_inj h)]
theorem get_set_same (t : Tr α) (n : Nat) (x : α) : (t.set n x).get n = some x := by rw [get_set, if_pos rfl]
theorem get_set_other (t : Tr α) {n m : Nat} (x : α) (h : m ≠ n) : (t.set n x).get m = t.get m := by rw [get_set, if_neg h]
end Tr

/-! ### 2. The state of a closed run -/
inductive AObj where
  | row (elem : TypeId) (cells : List Value)
  | map (es : Array MapEntry) (clock : Nat)
  | dead

def AObj.alive : AObj → Prop
  | .dead => False
  | _ => True

structure AS where
  h : Tr AObj
  n : Nat
  thr : Nat
  rd : List Nat
  wr : List Nat

structure AS.le (s s' : AS) : Prop where
  n : s.n ≤ s'.n
  thr : s'.thr = s.thr
  rd : ∀ i ∈ s.rd, i ∈ s'.rd
  wr : ∀ i ∈ s.wr, i ∈ s'.wr
  keep : ∀ i, i < s.n → i < s.thr → i ∉ s'.wr → s'.h.get i = s.h.get i
  small : (∀ i ∈ s.rd, i < s.thr) → ∀ i ∈ s'.rd, i < s.thr
  smallw : (∀ i ∈ s.wr, i < s.thr) → ∀ i ∈ s'.wr, i < s.thr
  wf : (∀ i, s.n ≤ i → s.h.get i = none) → ∀ i, s'.n ≤ i → s'.h.get i = none

theorem AS.le.refl (s : AS) : s.le s := ⟨Nat.le_refl _, rfl, fun _ h => h, fun _ h => h, fun _ _ _ _ => rfl, fun h => h, fun h => h, fun h => h⟩
theorem AS.le.trans {a b c : AS} (h : a.le b) (k : b.le c) : a.le c :=
  ⟨Nat.le_trans h.n k.n, k.thr.trans h.thr, fun i hi => k.rd i (h.rd i hi), fun i hi => k.wr i (h.wr i hi),
   fun i hn ht hw => (k.keep i (Nat.lt_of_lt_of_le hn h.n) (h.thr.symm ▸ ht) hw).trans (h.keep i hn ht fun h' => hw (k.wr i h')),
   fun hs => by have := k.small (by rw [h.thr]; exact h.small hs); rwa [h.thr] at this,
   fun hs => by have := k.smallw (by rw [h.thr]; exact h.smallw hs); rwa [h.thr] at this,
   fun hs => k.wf (h.wf hs)⟩

/-- What a closed run does: it may come to nothing; numbers are only given out, touches only noted. -/
structure A (α : Type) where
  run : AS → Option (α × AS)
  mono : ∀ s x s', run s = some (x, s') → s.le s'

namespace A
variable {α β : Type}
def ret (x : α) : A α := ⟨fun s => some (x, s), fun s y s' h => by cases h; exact AS.le.refl s⟩
def fail : A α := ⟨fun _ => none, fun _ _ _ h => by cases h⟩
def bindRun (a : A α) (f : α → A β) (s : AS) : Option (β × AS) :=
  match a.run s with
  | none => none
  | some (x, s') => (f x).run s'
theorem bindRun_some {a : A α} {f : α → A β} {s : AS} {z : β} {s2 : AS} (h : bindRun a f s = some (z, s2)) :
    ∃ x s1, a.run s = some (x, s1) ∧ (f x).run s1 = some (z, s2) := by
  unfold bindRun at h
  split at h
  · cases h
  · rename_i x s1 e
    exact ⟨x, s1, e, h⟩
def bind (a : A α) (f : α → A β) : A β := ⟨bindRun a f, fun s z s2 h => by
  obtain ⟨x, s1, h1, h2⟩ := bindRun_some h
  exact (a.mono _ _ _ h1).trans ((f x).mono _ _ _ h2)⟩
instance : Monad A where
  pure := A.ret
  bind := A.bind
/-- What is known, or nothing. -/
def ofOption : Option α → A α
  | some x => A.ret x
  | none => A.fail
end A

def AS.addRd (s : AS) (i : Nat) : AS := match s with
  | ⟨h, n, thr, rd, wr⟩ => ⟨h, n, thr, i :: rd, wr⟩
def AS.addWr (s : AS) (i : Nat) : AS := match s with
  | ⟨h, n, thr, rd, wr⟩ => ⟨h, n, thr, rd, i :: wr⟩
def AS.setObj (s : AS) (i : Nat) (o : AObj) : AS := match s with
  | ⟨h, n, thr, rd, wr⟩ => ⟨h.set i o, n, thr, rd, wr⟩
def AS.push (s : AS) (o : AObj) : AS := match s with
  | ⟨h, n, thr, rd, wr⟩ => ⟨h.set n o, Nat.succ n, thr, rd, wr⟩
def AS.touchR (i : Nat) (s : AS) : AS :=
  match Nat.blt i s.thr with
  | false => s
  | true => match s.rd.contains i with
    | true => s
    | false => s.addRd i
def AS.touchW (i : Nat) (s : AS) : AS :=
  match Nat.blt i s.thr with
  | false => s
  | true => match s.wr.contains i with
    | true => s
    | false => s.addWr i

theorem AS.touchR_le (i : Nat) (s : AS) : s.le (s.touchR i) := by
  unfold AS.touchR
  split
  · exact AS.le.refl s
  · rename_i hb
    rw [Nat.blt_eq] at hb
    split
    · exact AS.le.refl s
    · refine ⟨Nat.le_refl _, rfl, fun j h => List.mem_cons_of_mem _ h, fun _ h => h, fun _ _ _ _ => rfl, ?_, fun h => h, fun h => h⟩
      intro h j hj
      rcases List.mem_cons.1 hj with rfl | hj
      · exact hb
      · exact h j hj
theorem AS.touchW_le (i : Nat) (s : AS) : s.le (s.touchW i) := by
  unfold AS.touchW
  split
  · exact AS.le.refl s
  · rename_i hb
    rw [Nat.blt_eq] at hb
    split
    · exact AS.le.refl s
    · refine ⟨Nat.le_refl _, rfl, fun _ h => h, fun j h => List.mem_cons_of_mem _ h, fun _ _ _ _ => rfl, fun h => h, ?_, fun h => h⟩
      intro h j hj
      rcases List.mem_cons.1 hj with rfl | hj
      · exact hb
      · exact h j hj
theorem AS.touchR_h (i : Nat) (s : AS) : (s.touchR i).h = s.h ∧ (s.touchR i).n = s.n := by
  unfold AS.touchR
  split
  · exact ⟨rfl, rfl⟩
  · split <;> exact ⟨rfl, rfl⟩
theorem AS.touchW_h (i : Nat) (s : AS) : (s.touchW i).h = s.h ∧ (s.touchW i).n = s.n := by
  unfold AS.touchW
  split
  · exact ⟨rfl, rfl⟩
  · split <;> exact ⟨rfl, rfl⟩
theorem AS.touchR_in (i : Nat) (s : AS) : s.thr ≤ i ∨ i ∈ (s.touchR i).rd := by
  unfold AS.touchR
  split
  · rename_i h
    left
    have : ¬ i < s.thr := by intro h0; rw [← Nat.blt_eq] at h0; rw [h0] at h; cases h
    omega
  · split
    · rename_i h
      right
      simpa using h
    · right
      exact List.mem_cons_self
theorem AS.touchW_in (i : Nat) (s : AS) : s.thr ≤ i ∨ i ∈ (s.touchW i).wr := by
  unfold AS.touchW
  split
  · rename_i h
    left
    have : ¬ i < s.thr := by intro h0; rw [← Nat.blt_eq] at h0; rw [h0] at h; cases h
    omega
  · split
    · rename_i h
      right
      simpa using h
    · right
      exact List.mem_cons_self

/-! ### 3. What a value, an object, a state is in a world -/
structure Place where
  block : Nat
  base : Nat
  total : Nat

/-- Where each number lies; what is settled for ever. -/
structure Rho where
  at_ : Nat → Option Place
  fz : Nat → Option Obj
instance : CoeFun Rho (fun _ => Nat → Option Place) := ⟨Rho.at_⟩
/-- The cells of values one behind the other. -/
def flatC : List Value → List Value
  | [] => []
  | v :: l => v.cells.toList ++ flatC l
def cutC (c : Array Value) (off n : Nat) : List Value := (c.toList.drop off).take n
/-! A settled slice: '.func (.yield k) items #[]' (k odd: there is no more room; k under 2: nothing in it leads anywhere; k from 4 on: it is not nil); a pointer to settled cells: '.func (.method "") cells #[]'. -/
def fullK (k : Nat) : Bool := Nat.beq (Nat.mod k 2) 1
/-! The numbers that a value names. -/
mutual
inductive Ids (S : Nat → Prop) : Value → Prop
  | bool (b : Bool) : Ids S (.bool b)
  | int (k : IntKind) (n : Int) : Ids S (.int k n)
  | str (s : ByteArray) : Ids S (.string s)
  | pnil : Ids S (.pointer none)
  | ptr {i o : Nat} : S i → Ids S (.pointer (some ⟨i, o, none⟩))
  | snil : Ids S (.slice none 0 0)
  | sl {i o n c : Nat} : S i → Ids S (.slice (some ⟨i, o, none⟩) n c)
  | mnil : Ids S (.map none)
  | map {i : Nat} : S i → Ids S (.map (some i))
  | func {g : FuncId} {f c : Array Value} : Idss S f.toList → Idss S c.toList → Ids S (.func (.func g) f c)
  | list {k : Nat} {items : Array Value} : Idss S (flatC items.toList) → Ids S (.func (.yield k) items #[])
  | fptr {m : String} {cells : Array Value} : Idss S cells.toList → Ids S (.func (.method m) cells #[])
  | nfunc : Ids S .nilFunc
  | iface {t : TypeId} {v : Value} : Ids S v → Ids S (.iface t v)
  | niface : Ids S .nilIface
  | agg {c : Array Value} : Idss S c.toList → Ids S (.agg c)
  | tuple {c : Array Value} : Idss S c.toList → Ids S (.tuple c)
inductive Idss (S : Nat → Prop) : List Value → Prop
  | nil : Idss S []
  | cons {v : Value} {l : List Value} : Ids S v → Idss S l → Idss S (v :: l)
end
mutual
theorem Ids.mono {S S' : Nat → Prop} (e : ∀ i, S i → S' i) : ∀ {v : Value}, Ids S v → Ids S' v
  | _, .bool b => .bool b
  | _, .int k n => .int k n
  | _, .str s => .str s
  | _, .pnil => .pnil
  | _, .ptr h => .ptr (e _ h)
  | _, .snil => .snil
  | _, .sl h => .sl (e _ h)
  | _, .mnil => .mnil
  | _, .map h => .map (e _ h)
  | _, .func h h2 => .func (Idss.mono e h) (Idss.mono e h2)
  | _, .list h => .list (Idss.mono e h)
  | _, .fptr h => .fptr (Idss.mono e h)
  | _, .nfunc => .nfunc
  | _, .iface h => .iface (Ids.mono e h)
  | _, .niface => .niface
  | _, .agg h => .agg (Idss.mono e h)
  | _, .tuple h => .tuple (Idss.mono e h)
theorem Idss.mono {S S' : Nat → Prop} (e : ∀ i, S i → S' i) : ∀ {l : List Value}, Idss S l → Idss S' l
  | _, .nil => .nil
  | _, .cons h t => .cons (Ids.mono e h) (Idss.mono e t)
end
theorem Idss.mem {S : Nat → Prop} : ∀ {l : List Value}, Idss S l → ∀ v ∈ l, Ids S v
  | _, .nil, v, hv => by cases hv
  | _, .cons h t, v, hv => by
    rcases List.mem_cons.1 hv with rfl | hv
    · exact h
    · exact Idss.mem t v hv
theorem Idss.of {S : Nat → Prop} : ∀ {l : List Value}, (∀ v ∈ l, Ids S v) → Idss S l
  | [], _ => .nil
  | v :: l, h => .cons (h v List.mem_cons_self) (Idss.of fun u hu => h u (List.mem_cons_of_mem _ hu))
/-! A slice's capacity: '2 * c' where it is c; '2 * e + 1' where it is not known, the elements being of e cells. -/
mutual
inductive VRel (ρ : Rho) : Value → Value → Prop
  | bool (b : Bool) : VRel ρ (.bool b) (.bool b)
  | int (k : IntKind) (n : Int) : VRel ρ (.int k n) (.int k n)
  | str (s : ByteArray) : VRel ρ (.string s) (.string s)
  | pnil : VRel ρ (.pointer none) (.pointer none)
  | ptr {i o : Nat} {p : Place} : ρ i = some p → VRel ρ (.pointer (some ⟨i, o, none⟩)) (.pointer (some ⟨p.block, p.base + o, none⟩))
  | snil : VRel ρ (.slice none 0 0) (.slice none 0 0)
  | slx {i o n c : Nat} {p : Place} : ρ i = some p → VRel ρ (.slice (some ⟨i, o, none⟩) n (2 * c)) (.slice (some ⟨p.block, p.base + o, none⟩) n c)
  | slu {i o n c e : Nat} {p : Place} : ρ i = some p → o + c * e ≤ p.total → n ≤ c → VRel ρ (.slice (some ⟨i, o, none⟩) n (2 * e + 1)) (.slice (some ⟨p.block, p.base + o, none⟩) n c)
  | slz {i o e : Nat} {p : Place} {a : Addr} : ρ i = some p → VRel ρ (.slice (some ⟨i, o, none⟩) 0 (2 * e + 1)) (.slice (some a) 0 0)
  | mnil : VRel ρ (.map none) (.map none)
  | map {i : Nat} {p : Place} : ρ i = some p → VRel ρ (.map (some i)) (.map (some p.block))
  | func {g : FuncId} {f f' c c' : Array Value} : VRels ρ f.toList f'.toList → VRels ρ c.toList c'.toList → VRel ρ (.func (.func g) f c) (.func (.func g) f' c')
  | list {k b off cap sz : Nat} {items c : Array Value} {e : TypeId} {fr : Nat × Nat} : ρ.fz b = some (.cells c e fr) → (∀ v ∈ items.toList, v.cells.toList.length = sz) →
      VRels ρ (flatC items.toList) (cutC c off (items.toList.length * sz)) → items.toList.length ≤ cap → (fullK k = true → cap = items.toList.length) → (k < 2 → Idss (fun _ => False) (flatC items.toList)) →
      VRel ρ (.func (.yield k) items #[]) (.slice (some ⟨b, off, none⟩) items.toList.length cap)
  | listz {k cap : Nat} {a : Option Addr} : (fullK k = true → cap = 0) → (a = none → cap = 0) → (4 ≤ k → a ≠ none) → VRel ρ (.func (.yield k) #[] #[]) (.slice a 0 cap)
  | fptr {m : String} {b off : Nat} {cells c : Array Value} {e : TypeId} {fr : Nat × Nat} : ρ.fz b = some (.cells c e fr) → VRels ρ cells.toList (cutC c off cells.toList.length) →
      VRel ρ (.func (.method m) cells #[]) (.pointer (some ⟨b, off, none⟩))
  | nfunc : VRel ρ .nilFunc .nilFunc
  | iface {t : TypeId} {v v' : Value} : VRel ρ v v' → VRel ρ (.iface t v) (.iface t v')
  | niface : VRel ρ .nilIface .nilIface
  | agg {c c' : Array Value} : VRels ρ c.toList c'.toList → VRel ρ (.agg c) (.agg c')
  | tuple {c c' : Array Value} : VRels ρ c.toList c'.toList → VRel ρ (.tuple c) (.tuple c')
inductive VRels (ρ : Rho) : List Value → List Value → Prop
  | nil : VRels ρ [] []
  | cons {v v' : Value} {l l' : List Value} : VRel ρ v v' → VRels ρ l l' → VRels ρ (v :: l) (v' :: l')
end

structure Rho.ext (ρ ρ' : Rho) : Prop where
  at_ : ∀ i p, ρ i = some p → ρ' i = some p
  fz : ∀ b o, ρ.fz b = some o → ρ'.fz b = some o
theorem Rho.ext.refl (ρ : Rho) : Rho.ext ρ ρ := ⟨fun _ _ h => h, fun _ _ h => h⟩
theorem Rho.ext.trans {a b c : Rho} (h : Rho.ext a b) (k : Rho.ext b c) : Rho.ext a c := ⟨fun i p hi => k.at_ i p (h.at_ i p hi), fun i p hi => k.fz i p (h.fz i p hi)⟩

mutual
theorem VRel.ext {ρ ρ' : Rho} (e : Rho.ext ρ ρ') : ∀ {v v' : Value}, VRel ρ v v' → VRel ρ' v v'
  | _, _, .bool b => .bool b
  | _, _, .int k n => .int k n
  | _, _, .str s => .str s
  | _, _, .pnil => .pnil
  | _, _, .ptr h => .ptr (e.at_ _ _ h)
  | _, _, .snil => .snil
  | _, _, .slx h => .slx (e.at_ _ _ h)
  | _, _, .slu h h2 h3 => .slu (e.at_ _ _ h) h2 h3
  | _, _, .slz h => .slz (e.at_ _ _ h)
  | _, _, .mnil => .mnil
  | _, _, .map h => .map (e.at_ _ _ h)
  | _, _, .func h h2 => .func (VRels.ext e h) (VRels.ext e h2)
  | _, _, .list h h2 h3 h4 h5 h6 => .list (e.fz _ _ h) h2 (VRels.ext e h3) h4 h5 h6
  | _, _, .listz h h2 h3 => .listz h h2 h3
  | _, _, .fptr h h2 => .fptr (e.fz _ _ h) (VRels.ext e h2)
  | _, _, .nfunc => .nfunc
  | _, _, .iface h => .iface (VRel.ext e h)
  | _, _, .niface => .niface
  | _, _, .agg h => .agg (VRels.ext e h)
  | _, _, .tuple h => .tuple (VRels.ext e h)
theorem VRels.ext {ρ ρ' : Rho} (e : Rho.ext ρ ρ') : ∀ {l l' : List Value}, VRels ρ l l' → VRels ρ' l l'
  | _, _, .nil => .nil
  | _, _, .cons h t => .cons (VRel.ext e h) (VRels.ext e t)
end

theorem VRels.length {ρ : Rho} : ∀ {l l' : List Value}, VRels ρ l l' → l.length = l'.length
  | _, _, .nil => rfl
  | _, _, .cons _ t => by simp [VRels.length t]
theorem VRels.get {ρ : Rho} : ∀ {l l' : List Value}, VRels ρ l l' → ∀ (k : Nat) (v : Value), l[k]? = some v → ∃ v', l'[k]? = some v' ∧ VRel ρ v v'
  | _, _, .nil, k, v, h => by simp at h
  | _, _, .cons h t, 0, v, e => by simp at e; subst e; exact ⟨_, by simp, h⟩
  | _, _, .cons h t, k + 1, v, e => by
    simp at e
    obtain ⟨v', h', r⟩ := VRels.get t k v e
    exact ⟨v', by simpa using h', r⟩
theorem VRels.append {ρ : Rho} {a a' b b' : List Value} (h : VRels ρ a a') (k : VRels ρ b b') : VRels ρ (a ++ b) (a' ++ b') := by
  induction a generalizing a' with
  | nil => cases h; exact k
  | cons x xs ih => cases h with | cons h t => exact .cons h (ih t)
theorem VRels.take {ρ : Rho} {a a' : List Value} (h : VRels ρ a a') (n : Nat) : VRels ρ (a.take n) (a'.take n) := by
  induction n generalizing a a' with
  | zero => simp; exact .nil
  | succ n ih =>
    cases h with
    | nil => simp; exact .nil
    | cons h t => exact .cons h (ih t)
theorem VRels.drop {ρ : Rho} {a a' : List Value} (h : VRels ρ a a') (n : Nat) : VRels ρ (a.drop n) (a'.drop n) := by
  induction n generalizing a a' with
  | zero => exact h
  | succ n ih =>
    cases h with
    | nil => exact .nil
    | cons h t => exact ih t
theorem VRels.set {ρ : Rho} {a a' : List Value} (h : VRels ρ a a') (n : Nat) {v v' : Value} (hv : VRel ρ v v') : VRels ρ (a.set n v) (a'.set n v') := by
  induction n generalizing a a' with
  | zero => cases h with
    | nil => exact .nil
    | cons h t => exact .cons hv t
  | succ n ih => cases h with
    | nil => exact .nil
    | cons h t => exact .cons h (ih t)
theorem VRels.of_get {ρ : Rho} : ∀ {l l' : List Value}, l.length = l'.length → (∀ (k : Nat) (v v' : Value), l[k]? = some v → l'[k]? = some v' → VRel ρ v v') → VRels ρ l l'
  | [], [], _, _ => .nil
  | [], _ :: _, h, _ => by simp at h
  | _ :: _, [], h, _ => by simp at h
  | a :: l, b :: l', h, f => .cons (f 0 a b rfl rfl) (VRels.of_get (by simpa using h) fun k v v' e e' => f (k + 1) v v' (by simpa using e) (by simpa using e'))
theorem VRels.replicate {ρ : Rho} (n : Nat) {v v' : Value} (hv : VRel ρ v v') : VRels ρ (List.replicate n v) (List.replicate n v') := by
  induction n with
  | zero => exact .nil
  | succ n ih => exact .cons hv ih

/-- None of the cells is set apart. -/
def Unfrozen (c : Array Value) (fr : Nat × Nat) : Prop := fr.2 ≤ fr.1 ∨ c.size ≤ fr.1
theorem Unfrozen.not {c : Array Value} {fr : Nat × Nat} (h : Unfrozen c fr) {k : Nat} (hk : k < c.size) : (decide (fr.1 ≤ k) && decide (k < fr.2)) = false := by
  cases hb : (decide (fr.1 ≤ k) && decide (k < fr.2)) with
  | false => rfl
  | true =>
    simp at hb
    rcases h with h | h <;> omega
theorem Unfrozen.zero (c : Array Value) : Unfrozen c (0, 0) := .inl (Nat.le_refl _)

/-- An object of the state, in a world. -/
def ObjOk (ρ : Rho) (w : World) (i : Nat) : AObj → Prop
  | .dead => True
  | .row e cs => ∃ p c, ρ i = some p ∧ (∃ fr, w.heap[p.block]? = some (.cells c e fr) ∧ Unfrozen c fr) ∧ cs.length ≤ p.total ∧ p.base + p.total ≤ c.size ∧
      ∀ k v, cs[k]? = some v → ∃ v', c[p.base + k]? = some v' ∧ VRel ρ v v'
  | .map es clock => ∃ p es', ρ i = some p ∧ w.heap[p.block]? = some (.map es' clock) ∧ VRels ρ (es.toList.map (·.key)) (es'.toList.map (·.key)) ∧
      VRels ρ (es.toList.map (·.val)) (es'.toList.map (·.val)) ∧ es.toList.map (·.born) = es'.toList.map (·.born)

def AS.live (s : AS) (i : Nat) : Prop := ∃ o, s.h.get i = some o ∧ o.alive

structure RepOn (Pm : Nat → Prop) (ρ : Rho) (s : AS) (w : World) : Prop where
  obj : ∀ i o, Pm i → s.h.get i = some o → ObjOk ρ w i o
  inj : ∀ i j p q, Pm i → Pm j → s.live i → s.live j → ρ i = some p → ρ j = some q → p.block = q.block → i = j
  fz : ∀ b o, ρ.fz b = some o → w.heap[b]? = some o
  off : ∀ i p b o, Pm i → s.live i → ρ i = some p → ρ.fz b = some o → p.block ≠ b

structure Pre (Pm : Nat → Prop) (ρ : Rho) (s : AS) (w : World) (sf : AS) : Prop where
  rep : RepOn Pm ρ s w
  low : s.thr ≤ s.n
  fresh : ∀ i, s.n ≤ i → i < sf.n → ρ i = none
  new : ∀ i, s.n ≤ i → s.h.get i = none
  rd : ∀ i ∈ sf.rd, Pm i
  wr : ∀ i ∈ sf.wr, Pm i
  above : ∀ i, s.thr ≤ i → i < sf.n → Pm i

structure Step (Pm : Nat → Prop) (ρ : Rho) (s : AS) (w : World) (ρ' : Rho) (s' : AS) (w' : World) : Prop where
  rep : RepOn Pm ρ' s' w'
  ext : Rho.ext ρ ρ'
  dom : ∀ i, ρ i = none → (i < s.n ∨ s'.n ≤ i) → ρ' i = none
  new : ∀ i, s'.n ≤ i → s'.h.get i = none
  dead : ∀ i, i < s.n → s'.live i → s.live i
  size : w.heap.size ≤ w'.heap.size
  frame : ∀ b, b < w.heap.size → (∀ i p, Pm i → s.live i → ρ i = some p → p.block ≠ b) → w'.heap[b]? = w.heap[b]?
  newb : ∀ i p, Pm i → s'.live i → ρ' i = some p → w.heap.size ≤ p.block ∨ ∃ j q, Pm j ∧ s.live j ∧ ρ j = some q ∧ q.block = p.block
  newz : ∀ b o, ρ'.fz b = some o → ρ.fz b = some o ∨ w.heap.size ≤ b ∨ ∃ j q, Pm j ∧ s.live j ∧ ρ j = some q ∧ q.block = b
  os : w'.os = w.os
  tape : w'.tape = w.tape
  output : w'.output = w.output

theorem Step.trans {Pm : Nat → Prop} {ρ ρ1 ρ2 : Rho} {s s1 s2 : AS} {w w1 w2 : World} (h : Step Pm ρ s w ρ1 s1 w1) (k : Step Pm ρ1 s1 w1 ρ2 s2 w2)
    (hn : s.n ≤ s1.n) (hn2 : s1.n ≤ s2.n) : Step Pm ρ s w ρ2 s2 w2 where
  rep := k.rep
  ext := h.ext.trans k.ext
  dom := fun i hi hc => by
    by_cases c : i < s.n ∨ s1.n ≤ i
    · exact k.dom i (h.dom i hi c) (by omega)
    · exact absurd hc (by omega)
  new := k.new
  dead := fun i hi hl => h.dead i hi (k.dead i (by omega) hl)
  size := Nat.le_trans h.size k.size
  frame := fun b hb hne => by
    rw [k.frame b (Nat.lt_of_lt_of_le hb h.size) (fun i p hi hl hp e => ?_), h.frame b hb hne]
    rcases h.newb i p hi hl hp with h0 | ⟨j, q, hj, hjl, hq, e'⟩
    · omega
    · exact hne j q hj hjl hq (e'.trans e)
  newb := fun i p hi hl hp => by
    rcases k.newb i p hi hl hp with h0 | ⟨j, q, hj, hjl, hq, e'⟩
    · exact .inl (Nat.le_trans h.size h0)
    · rcases h.newb j q hj hjl hq with h1 | ⟨j2, q2, hj2, hl2, hq2, e2⟩
      · exact .inl (by omega)
      · exact .inr ⟨j2, q2, hj2, hl2, hq2, e2.trans e'⟩
  newz := fun b o hb => by
    rcases k.newz b o hb with h0 | h0 | ⟨j, q, hj, hjl, hq, e'⟩
    · exact h.newz b o h0
    · exact .inr (.inl (Nat.le_trans h.size h0))
    · rcases h.newb j q hj hjl hq with h1 | ⟨j2, q2, hj2, hl2, hq2, e2⟩
      · exact .inr (.inl (by omega))
      · exact .inr (.inr ⟨j2, q2, hj2, hl2, hq2, e2.trans e'⟩)
  os := k.os.trans h.os
  tape := k.tape.trans h.tape
  output := k.output.trans h.output

theorem Step.refl {Pm : Nat → Prop} {ρ : Rho} {s : AS} {w : World} {sf : AS} (h : Pre Pm ρ s w sf) : Step Pm ρ s w ρ s w where
  rep := h.rep
  ext := Rho.ext.refl ρ
  dom := fun _ h _ => h
  new := h.new
  dead := fun _ _ h => h
  size := Nat.le_refl _
  frame := fun _ _ _ => rfl
  newb := fun i p hi hl hp => .inr ⟨i, p, hi, hl, hp, rfl⟩
  newz := fun _ _ h => .inl h
  os := rfl
  tape := rfl
  output := rfl

/-! ### 4. A closed run and the model's own -/
def SimAt (P : Program) {α β : Type} (Pm : Nat → Prop) (ρ : Rho) (s : AS) (w : World) (a : A α) (c : Sem β) (R : Rho → α → β → Prop) : Prop :=
  ∀ x s', a.run s = some (x, s') → Pre Pm ρ s w s' → ∃ ρ' y w', c.run P w = .ok y w' ∧ Step Pm ρ s w ρ' s' w' ∧ R ρ' x y

theorem Sem.run_bind {α β : Type} (P : Program) (c : Sem α) (g : α → Sem β) (w : World) :
    (c >>= g).run P w = match c.run P w with
      | .ok y w' => (g y).run P w'
      | .halt h w' => .halt h w' := by
  change (Sem.bind c g).run P w = _
  induction c generalizing w with
  | pure a => rfl
  | load m a k ih =>
    simp only [Sem.bind, Sem.run]
    cases w.cell? a with
    | some v => exact ih v w
    | none =>
      dsimp only
      split
      · exact ih _ w
      · rfl
  | store m a v k ih =>
    cases v <;> simp only [Sem.bind, Sem.run] <;> (cases w.cell? a with
    | some v =>
      dsimp only
      split
      · rfl
      · exact ih _
    | none =>
      dsimp only
      split
      · exact ih _
      · rfl)
  | new o k ih => simp only [Sem.bind, Sem.run]; exact ih _ _
  | shape r k ih => simp only [Sem.bind, Sem.run]; exact ih _ _
  | freeze a n k ih => simp only [Sem.bind, Sem.run]; exact ih _
  | frozen a k ih => simp only [Sem.bind, Sem.run]; exact ih _ _
  | getObj r k ih =>
    simp only [Sem.bind, Sem.run]
    split
    · rfl
    · exact ih _ _
    · rfl
  | setObj r o k ih =>
    simp only [Sem.bind, Sem.run]
    split
    · rfl
    · exact ih _
    · rfl
  | choose q k ih =>
    simp only [Sem.bind, Sem.run]
    split
    · exact ih _ _
    · exact ih _ _
  | sys c k ih => simp only [Sem.bind, Sem.run]; exact ih _ _
  | program k ih => simp only [Sem.bind, Sem.run]; exact ih _ _
  | mark m k ih => simp only [Sem.bind, Sem.run]; exact ih _
  | halt h => rfl

theorem Pre.first {Pm : Nat → Prop} {ρ : Rho} {s s1 sf : AS} {w : World} (h : Pre Pm ρ s w sf) (k : s1.le sf) : Pre Pm ρ s w s1 where
  rep := h.rep
  low := h.low
  fresh := fun i h1 h2 => h.fresh i h1 (Nat.lt_of_lt_of_le h2 k.n)
  new := h.new
  rd := fun i hi => h.rd i (k.rd i hi)
  wr := fun i hi => h.wr i (k.wr i hi)
  above := fun i h1 h2 => h.above i h1 (Nat.lt_of_lt_of_le h2 k.n)
theorem Pre.next {Pm : Nat → Prop} {ρ ρ1 : Rho} {s s1 sf : AS} {w w1 : World} (h : Pre Pm ρ s w sf) (k : s.le s1) (st : Step Pm ρ s w ρ1 s1 w1) : Pre Pm ρ1 s1 w1 sf where
  rep := st.rep
  low := by rw [k.thr]; exact Nat.le_trans h.low k.n
  fresh := fun i h1 h2 => st.dom i (h.fresh i (Nat.le_trans k.n h1) h2) (.inr h1)
  new := st.new
  rd := h.rd
  wr := h.wr
  above := fun i h1 h2 => h.above i (k.thr ▸ h1) h2

theorem sim_bind {P : Program} {α β γ δ : Type} {Pm : Nat → Prop} {ρ : Rho} {s : AS} {w : World} {a : A α} {c : Sem β} {f : α → A γ} {g : β → Sem δ}
    {R : Rho → α → β → Prop} {R' : Rho → γ → δ → Prop} (h : SimAt P Pm ρ s w a c R)
    (k : ∀ ρ1 s1 w1 x y, Rho.ext ρ ρ1 → R ρ1 x y → SimAt P Pm ρ1 s1 w1 (f x) (g y) R') : SimAt P Pm ρ s w (a >>= f) (c >>= g) R' := by
  intro z s2 hz hp
  obtain ⟨x, s1, h1, h2⟩ := A.bindRun_some (a := a) (f := f) hz
  obtain ⟨ρ1, y, w1, e1, st1, r1⟩ := h x s1 h1 (hp.first ((f x).mono _ _ _ h2))
  obtain ⟨ρ2, y2, w2, e2, st2, r2⟩ := k ρ1 s1 w1 x y st1.ext r1 z s2 h2 (hp.next (a.mono _ _ _ h1) st1)
  refine ⟨ρ2, y2, w2, ?_, st1.trans st2 (a.mono _ _ _ h1).n ((f x).mono _ _ _ h2).n, r2⟩
  rw [Sem.run_bind, e1]
  exact e2

theorem sim_pure {P : Program} {α β : Type} {Pm : Nat → Prop} {ρ : Rho} {s : AS} {w : World} {x : α} {y : β} {R : Rho → α → β → Prop} (h : R ρ x y) :
    SimAt P Pm ρ s w (pure x) (pure y) R := by
  intro x' s' e hp
  cases e
  exact ⟨ρ, y, w, rfl, Step.refl hp, h⟩
theorem sim_fail {P : Program} {α β : Type} {Pm : Nat → Prop} {ρ : Rho} {s : AS} {w : World} {c : Sem β} {R : Rho → α → β → Prop} :
    SimAt P Pm ρ s w A.fail c R := by
  intro x s' e _
  cases e
theorem sim_mono {P : Program} {α β : Type} {Pm : Nat → Prop} {ρ : Rho} {s : AS} {w : World} {a : A α} {c : Sem β} {R R' : Rho → α → β → Prop}
    (h : SimAt P Pm ρ s w a c R) (k : ∀ ρ x y, R ρ x y → R' ρ x y) : SimAt P Pm ρ s w a c R' := by
  intro x s' e hp
  obtain ⟨ρ', y, w', e', st, r⟩ := h x s' e hp
  exact ⟨ρ', y, w', e', st, k _ _ _ r⟩
/-- The model's side may first do what changes nothing. -/
theorem sim_pre {P : Program} {α β γ : Type} {Pm : Nat → Prop} {ρ : Rho} {s : AS} {w : World} {a : A α} {c : Sem γ} {g : γ → Sem β} {y : γ} {R : Rho → α → β → Prop}
    (h : c.run P w = .ok y w) (k : SimAt P Pm ρ s w a (g y) R) : SimAt P Pm ρ s w a (c >>= g) R := by
  intro x s' e hp
  obtain ⟨ρ', z, w', e', st, r⟩ := k x s' e hp
  refine ⟨ρ', z, w', ?_, st, r⟩
  rw [Sem.run_bind, h]
  exact e'
end
end Go.Proofs.BhE
