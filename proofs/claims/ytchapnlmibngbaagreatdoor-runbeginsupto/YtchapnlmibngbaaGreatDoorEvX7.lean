/- From what memory holds to values by names. -/
import Derived.Test.YtchapnlmibngbaaGreatDoorEvX6
import Derived.ChangeArms
import Derived.Below
set_option linter.all false
namespace Go.Proofs.BhE
open Go
open Go.RowKit (Below)
noncomputable section

/-- All that is there is settled. -/
def rhoW (W : World) : Rho := ⟨fun _ => none, fun b => W.heap[b]?⟩

theorem calls_of_pure {P : Program} {f : FuncId} {args : List Value} {b : Bool} (h : PureFn P f args (.returned (.bool b))) {W : World} {args' : Array Value} (ha : VRels (rhoW W) args args'.toList) :
    Calls P f args' W fun e w' => e = .returned (.bool b) ∧ Below W.heap.size W w' := by
  have hp : Pre (fun _ => True) (rhoW W) AS.empty W AS.empty := by
    refine ⟨⟨?_, ?_, ?_, ?_⟩, Nat.le_refl _, fun _ _ _ => rfl, fun i _ => Tr.get_leaf i, fun _ _ => trivial, fun _ _ => trivial, fun _ _ _ => trivial⟩
    · intro i o _ h; rw [show AS.empty.h = .leaf from rfl, Tr.get_leaf] at h; cases h
    · intro i j p q _ _ ⟨o, g, _⟩; rw [show AS.empty.h = .leaf from rfl, Tr.get_leaf] at g; cases g
    · intro b o h; exact h
    · intro i p b o _ _ h; cases h
  refine (h (fun _ => True) _ AS.empty W args' ha (.returned (.bool b)) AS.empty rfl hp).mono ?_
  rintro e' w' ⟨ρ', st, her⟩
  refine ⟨?_, st.os, st.tape, st.output, st.size, fun k hk => st.frame k hk (fun i p _ _ h => by cases h)⟩
  cases her with
  | returned hr => cases hr; rfl

theorem cells?_spec {w : World} {base : Nat} {a : Addr} {n : Nat} {cs : List Value} (h : w.cells? base a n = some cs) : cs.length = n ∧ ∀ i, i < n → w.cell? (a.add i) = cs[i]? := by
  unfold World.cells? at h
  split at h
  · exact ⟨by simpa using mapM_some_length h, fun i hi => by simpa using mapM_some_get h i i (by simp [hi])⟩
  · cases h
theorem cells?_block {w : World} {base : Nat} {a : Addr} {n : Nat} {cs : List Value} (h : w.cells? base a n = some cs) (h0 : 0 < n) :
    a.spot = none ∧ ∃ c e fr, w.heap[a.block]? = some (.cells c e fr) ∧ cs = cutC c a.off n := by
  obtain ⟨h1, h2⟩ := cells?_spec h
  have h3 := h2 0 h0
  rw [show a.add 0 = a by simp [Addr.add]] at h3
  have h4 : ∃ v, w.cell? a = some v := by
    rw [h3]
    exact ⟨cs[0], List.getElem?_eq_getElem (by omega)⟩
  obtain ⟨v, hv⟩ := h4
  unfold World.cell? at hv
  split at hv
  case h_2 => cases hv
  rename_i c e fr hb
  split at hv
  · cases hv
  rename_i hs
  have hs : a.spot = none := by simpa using hs
  refine ⟨hs, c, e, fr, hb, ?_⟩
  have ha : a = ⟨a.block, a.off, none⟩ := by cases a; simp at hs; subst hs; rfl
  refine List.ext_getElem? fun i => ?_
  by_cases hi : i < n
  · have h5 := h2 i hi
    rw [ha, add_spot] at h5
    unfold World.cell? at h5
    dsimp only at h5
    rw [hb] at h5
    simp only [Option.isSome_none, Bool.false_eq_true, if_false] at h5
    rw [← h5]
    unfold cutC
    rw [List.getElem?_take_of_lt hi, List.getElem?_drop]
    simp
  · rw [List.getElem?_eq_none (by omega), List.getElem?_eq_none (by rw [cutC_length]; omega)]

theorem choose_list {α : Type} {R : Nat → α → Prop} : ∀ (n : Nat), (∀ i, i < n → ∃ y, R i y) → ∃ ys : List α, ys.length = n ∧ ∀ i y, ys[i]? = some y → R i y
  | 0, _ => ⟨[], rfl, fun i y h => by simp at h⟩
  | n + 1, h => by
    obtain ⟨ys, h1, h2⟩ := choose_list n fun i hi => h i (by omega)
    obtain ⟨y, hy⟩ := h n (by omega)
    refine ⟨ys ++ [y], by simp [h1], fun i z hz => ?_⟩
    by_cases hi : i < n
    · rw [List.getElem?_append_left (by omega)] at hz
      exact h2 i z hz
    · rw [List.getElem?_append_right (by omega)] at hz
      have : i = n := by
        have := (List.getElem?_eq_some_iff.1 hz).1
        simp at this
        omega
      subst this
      simp [h1] at hz
      subst hz
      exact hy

section
variable {H : Type} {enc : TypeId × Value → H} {P : Program} {W : World} {base : Nat} {sp : Nat → Bool} {held : Bool} {B : DataW H → Nat} {N : Nat}

/-- Cells of a type are read as something with a name. -/
def Rd (enc : TypeId × Value → H) (P : Program) (W : World) (base : Nat) (sp : Nat → Bool) (held : Bool) (B : DataW H → Nat) (N : Nat) (t : TypeId) {α : Type} (en : α → List Value) (G : α → Prop) : Prop :=
  ∀ n cs x, DataW.trod enc P W base sp held n t cs = some x → B x.1 ≤ N → ∃ y, G y ∧ VRels (rhoW W) (en y) cs
/-- Pure cells. -/
def PureC {α : Type} (en : α → List Value) : Prop := ∀ y, Idss (fun _ => False) (en y)

theorem rd_int {t : TypeId} {k : IntKind} (ht : P.underlying t = some (.int k)) : Rd enc P W base sp held B N t (fun n : Int => [.int k n]) (fun n => (Lit.int k n).wf = true) := by
  intro n cs x h _
  obtain ⟨m, rfl, _, hw⟩ := DataW.trod_int ht h
  exact ⟨m, hw, .cons (.int _ _) .nil⟩
theorem rd_bool {t : TypeId} (ht : P.underlying t = some .bool) : Rd enc P W base sp held B N t (fun b : Bool => [.bool b]) (fun _ => True) := by
  intro n cs x h _
  obtain ⟨b, rfl, _⟩ := DataW.trod_bool ht h
  exact ⟨b, trivial, .cons (.bool _) .nil⟩
theorem rd_string {t : TypeId} (ht : P.underlying t = some .string) : Rd enc P W base sp held B N t (fun s : ByteArray => [.string s]) (fun _ => True) := by
  intro n cs x h _
  obtain ⟨s, rfl, _⟩ := DataW.trod_string ht h
  exact ⟨s, trivial, .cons (.str _) .nil⟩

/-- What a bulk tells of a slice. -/
structure BulkOk (B : DataW H → Nat) : Prop where
  len : ∀ es rs, es.length ≤ B (.slice es rs)
  elem : ∀ es rs d, d ∈ es → B d ≤ B (.slice es rs)
  part : ∀ ps d, d ∈ ps → B d ≤ B (.agg ps)

theorem rd_slice (hB : BulkOk B) {t e : TypeId} (ht : P.underlying t = some (.slice e)) {sz : Nat} (hsz : P.cellsOf e = sz) (h0 : 0 < sz) {α : Type} {en : α → List Value} {it : α → Value} {G : α → Prop} (hit : ∀ y, (it y).cells.toList = en y) (hlen : ∀ y, (en y).length = sz) (hpu : PureC en)
    (hel : Rd enc P W base sp held B N e en G) : Rd enc P W base sp held B N t (fun ys : List α => [vl (ys.map it)]) (fun ys => ys.length ≤ N ∧ ∀ y ∈ ys, G y) := by
  intro n cs x h hx
  rcases DataW.trod_slice ht h with ⟨rfl, rfl⟩ | ⟨a, len, cap, elems, rest, m, rfl, rfl, rfl, hb, hlc, hcm, hl, hget, _⟩
  · exact ⟨[], ⟨Nat.zero_le _, by simp⟩, .cons (.listz (fun _ => rfl) (fun _ => rfl) (fun h => absurd h (by decide))) .nil⟩
  · dsimp only at hx
    have key : ∀ i, i < len → ∃ y, G y ∧ ∃ cs', W.cells? base (a.add (i * P.cellsOf e)) (P.cellsOf e) = some cs' ∧ VRels (rhoW W) (en y) cs' := by
      intro i hi
      have h1 := hget i hi
      have h2 : elems[i]? = some elems[i] := List.getElem?_eq_getElem (by omega)
      rw [h2, Option.bind_eq_some_iff] at h1
      obtain ⟨cs', h3, h4⟩ := h1
      have hle : B elems[i].1 ≤ N := Nat.le_trans (hB.elem _ _ _ (List.mem_map_of_mem (List.getElem_mem (by omega)))) hx
      obtain ⟨y, h5, h6⟩ := hel m cs' _ h4 hle
      exact ⟨y, h5, cs', h3, h6⟩
    obtain ⟨ys, hy1, hy2⟩ := choose_list len key
    have hlen2 : len ≤ N := by
      have := hB.len (elems.map (·.1)) (rest.map (·.1))
      simp at this
      omega
    refine ⟨ys, ⟨by omega, fun y hy => ?_⟩, .cons ?_ .nil⟩
    · obtain ⟨i, hi⟩ := List.getElem?_of_mem hy
      exact (hy2 i y hi).1
    · by_cases hz : len = 0
      · have : ys = [] := List.length_eq_zero_iff.1 (by omega)
        subst this
        subst hz
        exact .listz (fun h => by cases h) (fun h => by cases h) (fun h => absurd h (by decide))
      · have hy0 : ∃ y, ys[0]? = some y := ⟨ys[0], List.getElem?_eq_getElem (by omega)⟩
        obtain ⟨y0, hy0⟩ := hy0
        obtain ⟨_, cs0, hc0, _⟩ := hy2 0 y0 hy0
        rw [hsz, Nat.zero_mul, show a.add 0 = a by simp [Addr.add]] at hc0
        obtain ⟨hs, c, ce, fr, hblk, _⟩ := cells?_block hc0 h0
        have ha : a = ⟨a.block, a.off, none⟩ := by cases a; simp at hs; subst hs; rfl
        have hflat : ∀ (k : Nat) (l : List α), l.length + k = len → (∀ i y, l[i]? = some y → ys[k + i]? = some y) → VRels (rhoW W) (flatC (l.map it)) (cutC c (a.off + k * sz) (l.length * sz)) := by
          intro k l
          induction l generalizing k with
          | nil => intro _ _; simp [flatC, cutC]; exact .nil
          | cons y l ih =>
            intro hl2 hidx
            have h1 := hidx 0 y (by simp)
            obtain ⟨_, cs', hc', hr⟩ := hy2 (k + 0) y h1
            rw [Nat.add_zero, hsz, ha, add_spot] at hc'
            obtain ⟨_, c2, e2, fr2, hb2, hcs⟩ := cells?_block hc' h0
            dsimp only at hb2 hcs
            rw [hblk] at hb2
            cases hb2
            have ih' := ih (k + 1) (by simp at hl2; omega) (fun i z hz => by have := hidx (i + 1) z (by simpa using hz); rwa [show k + 1 + i = k + (i + 1) by omega])
            rw [List.map_cons]
            unfold flatC
            rw [hit]
            have hsplit : cutC c (a.off + k * sz) ((y :: l).length * sz) = cutC c (a.off + k * sz) sz ++ cutC c (a.off + (k + 1) * sz) (l.length * sz) := by
              unfold cutC
              rw [List.length_cons, Nat.succ_mul, Nat.add_comm (l.length * sz) sz, List.take_add, List.drop_drop, Nat.succ_mul, Nat.add_assoc]
            rw [hsplit]
            rw [hcs] at hr
            exact hr.append ih'
        have hall := hflat 0 ys (by omega) (fun i y h => by simpa using h)
        rw [Nat.zero_mul, Nat.add_zero] at hall
        rw [ha]
        have := VRel.list (ρ := rhoW W) (k := 0) (cap := cap) (items := (ys.map it).toArray) (b := a.block) (off := a.off) (sz := sz) hblk (by
            intro v hv
            obtain ⟨y, _, rfl⟩ := List.mem_map.1 (by simpa using hv)
            rw [hit, hlen]) (by simpa using hall) (by simpa using (by omega : ys.length ≤ cap)) (fun h => by cases h) (fun _ => by
            refine Idss.of fun v hv => ?_
            have hv : v ∈ flatC (ys.map it) := by simpa using hv
            clear hall hflat
            have : ∀ l : List α, v ∈ flatC (l.map it) → Ids (fun _ => False) v := by
              intro l
              induction l with
              | nil => intro h; cases h
              | cons y l ih =>
                intro h
                rw [List.map_cons] at h
                unfold flatC at h
                rcases List.mem_append.1 h with h | h
                · rw [hit] at h; exact (hpu y).mem v h
                · exact ih h
            exact this ys hv)
        simp only [List.length_map, hy1] at this
        exact this
end
end
end Go.Proofs.BhE
