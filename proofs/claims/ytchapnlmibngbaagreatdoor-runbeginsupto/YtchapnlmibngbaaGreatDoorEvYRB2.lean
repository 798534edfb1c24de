/- RunBegins, by names. -/
import Derived.Test.YtchapnlmibngbaaGreatDoorEvYRB
import Derived.Test.YtchapnlmibngbaaGreatDoorEvS08f
set_option linter.all false
open Go Go.Proofs Go.Proofs.BhE
namespace Go.Proofs.BhE.T
noncomputable section
set_option maxRecDepth 100000
set_option maxHeartbeats 1000000
set_option linter.unusedSimpArgs false
theorem und5 : C.und 5 = some (.int .u8) := by unfold C; exact Tryz.underlying5
def beF (p : Option (List (List Int)) × List (List Int)) : Value := match p.1 with
  | none => .bool true
  | some a => .bool (beg a p.2)
def beE (p : Option (List (List Int)) × List (List Int)) : List Value := match p.1 with
  | none => [.slice none 0 0, ill p.2]
  | some a => [ill a, ill p.2]
def beP (p : Option (List (List Int)) × List (List Int)) : Prop := match p.1 with
  | none => True
  | some a => shorts a
def cRB : FuncId → List Value → Option Value :=
  callK 10 (fun _ : Unit => True) (fun _ => []) (fun _ => .bool true) (callK 25 beP beE beF
    (callK 23 (fun p : List (List Int) × List (List Int) => shorts p.1) (fun p => [res 0 0 0 p.1, res 0 0 0 p.2]) (fun p => .bool (decide (p.1 = p.2))) callNil))
theorem cRB_ok : CallPOk Tryz.prog cRB := by
  refine callK_ok (fun _ _ => fe0) (callK_ok ?_ (callK_ok ?_ callNil_ok))
  · rintro ⟨a, b⟩ h
    cases a with
    | none => exact begins_nil b
    | some a => exact begins_pure a b h
  · rintro ⟨a, b⟩ h
    have := same_pure 0 0 0 0 0 0 a b h
    simpa using this
theorem cRB_10 : cRB 10 [] = some (.bool true) := callK_hit (x := ()) (pre := fun _ : Unit => True) (en := fun _ => []) (F := fun _ => .bool true) (fun _ _ _ _ _ => rfl) trivial
theorem beInj : ∀ x y, beP x → beP y → beE x = beE y → beF x = beF y := by
  rintro ⟨a, b⟩ ⟨c, d⟩ _ _ h
  cases a <;> cases c <;> simp only [beE, List.cons.injEq, and_true] at h
  · rfl
  · exact absurd h.1 (by simp [ill, vl])
  · exact absurd h.1 (by simp [ill, vl])
  · obtain ⟨h1, h2⟩ := h
    have h1 := ill_inj _ _ h1
    have h2 := ill_inj _ _ h2
    subst h1 h2
    rfl
theorem cRB_25 (a b : List (List Int)) (h : shorts a) : cRB 25 [ill a, ill b] = some (.bool (beg a b)) :=
  (callK_miss (by decide)).trans (callK_hit (x := (some a, b)) (pre := beP) (en := beE) (F := beF) beInj h)
theorem cRB_25n (b : List (List Int)) : cRB 25 [.slice none 0 0, ill b] = some (.bool true) :=
  (callK_miss (by decide)).trans (callK_hit (x := (none, b)) (pre := beP) (en := beE) (F := beF) beInj trivial)
theorem cRB_23 (a b : List (List Int)) (h : shorts a) : cRB 23 [res 0 0 0 a, res 0 0 0 b] = some (.bool (decide (a = b))) :=
  (callK_miss (by decide)).trans ((callK_miss (by decide)).trans (callK_hit (x := (a, b)) (pre := fun p : List (List Int) × List (List Int) => shorts p.1) (en := fun p => [res 0 0 0 p.1, res 0 0 0 p.2]) (F := fun p => .bool (decide (p.1 = p.2))) (by
    rintro ⟨a, b⟩ ⟨c, d⟩ _ _ h
    simp only [res, List.cons.injEq, and_true, Value.agg.injEq, Array.mk.injEq, true_and] at h
    rw [ill_inj _ _ h.1, ill_inj _ _ h.2]) h))
theorem fn10 : isFn C 10 = true := by kernel_rfl
theorem fn25 : isFn C 25 = true := by kernel_rfl
theorem fn23 : isFn C 23 = true := by kernel_rfl
theorem build36 (a : List (List Int)) : abuild C 36 [(3, ill a)] = some (res 0 0 0 a) := by kernel_rfl
theorem alen_ill (a : List (List Int)) : alen C 34 (ill a) = some (.int .i64 a.length) := by
  have := alen_vl und34 (a.map il)
  rw [List.length_map] at this
  exact this
theorem alen_il (a : List Int) : alen C 40 (il a) = some (.int .i64 a.length) := by
  have := alen_vl und40 (a.map iv)
  rw [List.length_map] at this
  exact this
theorem idx_ill {a : List (List Int)} {i : Nat} (h : i < a.length) : aindexAddr C 34 (ill a) (.int .i64 i) = some (afptr (il (a.getD i []))) := idx_scal und34 scal40 (ill_get a i h) rfl
theorem idx_il {a : List Int} {i : Nat} (h : i < a.length) : aindexAddr C 40 (il a) (.int .i64 i) = some (afptr (iv (a.getD i 0))) := idx_scal und40 scal2 (il_get a i h) rfl
theorem shorts_take {b : List (List Int)} (h : shorts b) (n : Nat) : shorts (b.take n) := by
  refine ⟨?_, fun x hx => h.2 x (List.mem_of_mem_take hx)⟩
  have := h.1
  unfold short at this ⊢
  rw [List.length_take]
  omega
theorem beg_self (a : List (List Int)) : beg a a = true := by simp [beg]
theorem beg_false {a b : List (List Int)} {i : Nat} (hi : i < a.length) (h : a.getD i [] ≠ b.getD i []) : beg a b = false := by
  cases hb : beg a b with
  | false => rfl
  | true =>
    exfalso
    simp only [beg, Bool.and_eq_true, decide_eq_true_eq] at hb
    apply h
    have h1 : a[i]? = (b.take a.length)[i]? := by rw [← hb.2]
    rw [List.getElem?_take_of_lt hi] at h1
    rw [List.getD_eq_getElem?_getD, List.getD_eq_getElem?_getD, h1]
theorem same_beg (a b : List (List Int)) : decide (a = b) = (beg a b && decide (a.length = b.length)) := by
  rw [Bool.eq_iff_iff]
  simp only [beg, Bool.and_eq_true, decide_eq_true_eq]
  constructor
  · rintro rfl; simp
  · rintro ⟨⟨_, h1⟩, h2⟩
    rw [h2, List.take_length] at h1
    exact h1

theorem runBegins_pure (a b : List (List Int)) (own : Bool) (cut : Nat) (hcut : cut < 256) (ha : shorts a) (hb : shorts b) : PureFn Tryz.prog 6 [ill a, ill b, .bool own, .int .u8 cut] (.returned (.bool true)) := by
  refine pure_of_code C_ok mixed (callOf_ok cRB_ok) (fn := Tryz.f6) (loops := 1000000000000000) (r := 8) (by unfold C; exact Tryz.func6) rfl rfl (by rw [Tryz.ntmps6]; simp) ?_ rfl (settle_bool C 6 _) ?_
  · rfl
  · show W (acode C (callOf cRB) 110 _ _ _) _ _
    rw [W_seq]
    refine W_q (callOf_eq cRB) (.inl rfl) (by simp only [List.toList_toArray]; rfl) (by simp only [dsts]; rfl) ?_; (repeat (refine q_op (by simp only [wantG, dsts, List.getElem?_cons_zero, List.getElem?_cons_succ, Tr.get_set, Tr.get_leaf, Nat.reduceEqDiff, ↓reduceIte]; rfl) ?_; first | (refine q_t ⟨_, _, by simp only [qop_move, qop_assign, qop_pick, qop_build, qop_nilCheck, qop_binOp, qop_unOp, qop_convert, qop_makeInterface, qop_slice, qop_fieldAddr, qop_field, qop_indexAddr, qop_index, qop_extract, qop_len, qop_min, qop_max, qop_call, qop_makeFunc, qop_load, qop_typeAssert, aevO_bool, aevO_int, aevO_tmp, aevO_func, aevO_snil, Tr.get_set, Tr.get_leaf, tmpsOf, evs, evo, evps, und34, und40, und3, und2, abin, aint, notGuarded, isConstO, Bool.or_true, Bool.true_or, Bool.or_false, Nat.reduceEqDiff, ↓reduceIte, Nat.reduceAdd, Nat.zero_add, List.length_map, reduceCtorEq, alen_vl und34, alen_vl und40, alen_nil und34, Array.toList, List.append_nil, List.nil_append, List.cons_append, aun, Bool.not_true, Bool.not_false, aconv, amin, und5]; rfl, rfl, by decide, ?_⟩) | (refine q_f ⟨_, rfl, by decide, ?_⟩))); refine q_nil ?_; dsimp only
    rw [W_seq]
    refine W_q (callOf_eq cRB) (.inl rfl) (by simp only [List.toList_toArray]; rfl) (by simp only [dsts]; rfl) ?_; (repeat (refine q_op (by simp only [wantG, dsts, List.getElem?_cons_zero, List.getElem?_cons_succ, Tr.get_set, Tr.get_leaf, Nat.reduceEqDiff, ↓reduceIte, fn10, cRB_10]; rfl) ?_; first | (refine q_t ⟨_, _, by simp only [qop_move, qop_assign, qop_pick, qop_build, qop_nilCheck, qop_binOp, qop_unOp, qop_convert, qop_makeInterface, qop_slice, qop_fieldAddr, qop_field, qop_indexAddr, qop_index, qop_extract, qop_len, qop_min, qop_max, qop_call, qop_makeFunc, qop_load, qop_typeAssert, aevO_bool, aevO_int, aevO_tmp, aevO_func, aevO_snil, Tr.get_set, Tr.get_leaf, tmpsOf, evs, evo, evps, und34, und40, und3, und2, abin, aint, notGuarded, isConstO, Bool.or_true, Bool.true_or, Bool.or_false, Nat.reduceEqDiff, ↓reduceIte, Nat.reduceAdd, Nat.zero_add, List.length_map, reduceCtorEq, alen_vl und34, alen_vl und40, alen_nil und34, Array.toList, List.append_nil, List.nil_append, List.cons_append, aun, Bool.not_true, Bool.not_false, aconv, amin, und5, fn10, cRB_10]; rfl, rfl, by decide, ?_⟩) | (refine q_f ⟨_, rfl, by decide, ?_⟩))); refine q_nil ?_; dsimp only
    rw [W_seq, W_seq]
    refine W_q (callOf_eq cRB) (.inl rfl) (by simp only [List.toList_toArray]; rfl) (by simp only [dsts]; rfl) ?_; (repeat (refine q_op (by simp only [wantG, dsts, List.getElem?_cons_zero, List.getElem?_cons_succ, Tr.get_set, Tr.get_leaf, Nat.reduceEqDiff, ↓reduceIte]; rfl) ?_; first | (refine q_t ⟨_, _, by simp only [qop_move, qop_assign, qop_pick, qop_build, qop_nilCheck, qop_binOp, qop_unOp, qop_convert, qop_makeInterface, qop_slice, qop_fieldAddr, qop_field, qop_indexAddr, qop_index, qop_extract, qop_len, qop_min, qop_max, qop_call, qop_makeFunc, qop_load, qop_typeAssert, aevO_bool, aevO_int, aevO_tmp, aevO_func, aevO_snil, Tr.get_set, Tr.get_leaf, tmpsOf, evs, evo, evps, und34, und40, und3, und2, abin, aint, notGuarded, isConstO, Bool.or_true, Bool.true_or, Bool.or_false, Nat.reduceEqDiff, ↓reduceIte, Nat.reduceAdd, Nat.zero_add, List.length_map, reduceCtorEq, alen_vl und34, alen_vl und40, alen_nil und34, Array.toList, List.append_nil, List.nil_append, List.cons_append, aun, Bool.not_true, Bool.not_false, aconv, amin, und5]; rfl, rfl, by decide, ?_⟩) | (refine q_f ⟨_, rfl, by decide, ?_⟩))); refine q_nil ?_; dsimp only
    refine W_condB _ _ _ _ _ _ _ (p := false) (by simp only [aevO_tmp, Tr.get_set, Nat.reduceEqDiff, ↓reduceIte]) (fun h => by cases h) (fun _ => ?_)
    rw [W_code_skip]
    dsimp only
    rw [W_seq, W_seq]
    refine W_q (callOf_eq cRB) (.inl rfl) (by simp only [List.toList_toArray]; rfl) (by simp only [dsts]; rfl) ?_; (repeat (refine q_op (by simp only [wantG, dsts, List.getElem?_cons_zero, List.getElem?_cons_succ, Tr.get_set, Tr.get_leaf, Nat.reduceEqDiff, ↓reduceIte]; rfl) ?_; first | (refine q_t ⟨_, _, by simp only [qop_move, qop_assign, qop_pick, qop_build, qop_nilCheck, qop_binOp, qop_unOp, qop_convert, qop_makeInterface, qop_slice, qop_fieldAddr, qop_field, qop_indexAddr, qop_index, qop_extract, qop_len, qop_min, qop_max, qop_call, qop_makeFunc, qop_load, qop_typeAssert, aevO_bool, aevO_int, aevO_tmp, aevO_func, aevO_snil, Tr.get_set, Tr.get_leaf, tmpsOf, evs, evo, evps, und34, und40, und3, und2, abin, aint, notGuarded, isConstO, Bool.or_true, Bool.true_or, Bool.or_false, Nat.reduceEqDiff, ↓reduceIte, Nat.reduceAdd, Nat.zero_add, List.length_map, reduceCtorEq, alen_vl und34, alen_vl und40, alen_nil und34, Array.toList, List.append_nil, List.nil_append, List.cons_append, aun, Bool.not_true, Bool.not_false, aconv, amin, und5]; rfl, rfl, by decide, ?_⟩) | (refine q_f ⟨_, rfl, by decide, ?_⟩))); refine q_nil ?_; dsimp only
    refine W.mono (Q := fun r s' => r.1 = AExit.normal ∧ s' = AS.empty ∧ r.2.d = [] ∧ ∃ A, shorts A ∧ r.2.t.get 0 = some (ill A) ∧ r.2.t.get 1 = some (ill b) ∧ r.2.t.get 9 = some (.bool true)) ?_ ?_
    · refine W_condB _ _ _ _ _ _ _ (p := own) (by simp only [aevO_tmp, Tr.get_set, Nat.reduceEqDiff, ↓reduceIte]) (fun _ => ?_) (fun _ => ?_)
      · have k1 : (cut : Int).tmod 8 = ((cut % 8 : Nat) : Int) := by
          rw [Int.tmod_eq_emod_of_nonneg (by omega)]; omega
        have k2 : IntKind.i64.wrap ((cut % 8 : Nat) : Int) = ((cut % 8 : Nat) : Int) := IntWalk.i64_in _ (by omega)
        have k3 : (if ((b.length : Nat) : Int) < ((cut % 8 : Nat) : Int) then ((b.length : Nat) : Int) else ((cut % 8 : Nat) : Int)) = ((min (cut % 8) b.length : Nat) : Int) := by
          split <;> omega
        have k4 := slice34 b (min (cut % 8) b.length) (Nat.min_le_right _ _)
        refine W_q (callOf_eq cRB) (.inl rfl) (by simp only [List.toList_toArray]; rfl) (by simp only [dsts]; rfl) ?_; (repeat (refine q_op (by simp only [wantG, dsts, List.getElem?_cons_zero, List.getElem?_cons_succ, Tr.get_set, Tr.get_leaf, Nat.reduceEqDiff, ↓reduceIte, k1, k2, alen_ill, k3, k4]; rfl) ?_; first | (refine q_t ⟨_, _, by simp only [qop_move, qop_assign, qop_pick, qop_build, qop_nilCheck, qop_binOp, qop_unOp, qop_convert, qop_makeInterface, qop_slice, qop_fieldAddr, qop_field, qop_indexAddr, qop_index, qop_extract, qop_len, qop_min, qop_max, qop_call, qop_makeFunc, qop_load, qop_typeAssert, aevO_bool, aevO_int, aevO_tmp, aevO_func, aevO_snil, Tr.get_set, Tr.get_leaf, tmpsOf, evs, evo, evps, und34, und40, und3, und2, abin, aint, notGuarded, isConstO, Bool.or_true, Bool.true_or, Bool.or_false, Nat.reduceEqDiff, ↓reduceIte, Nat.reduceAdd, Nat.zero_add, List.length_map, reduceCtorEq, alen_vl und34, alen_vl und40, alen_nil und34, Array.toList, List.append_nil, List.nil_append, List.cons_append, aun, Bool.not_true, Bool.not_false, aconv, amin, und5, k1, k2, alen_ill, k3, k4]; rfl, rfl, by decide, ?_⟩) | (refine q_f ⟨_, rfl, by decide, ?_⟩))); refine q_nil ?_; dsimp only
        exact ⟨rfl, rfl, rfl, b.take (min (cut % 8) b.length), shorts_take hb _, by simp only [aevO_tmp, Tr.get_set, Nat.reduceEqDiff, ↓reduceIte], by simp only [aevO_tmp, Tr.get_set, Nat.reduceEqDiff, ↓reduceIte, tmpsOf, Nat.zero_add, Nat.reduceAdd], by simp only [aevO_tmp, Tr.get_set, Nat.reduceEqDiff, ↓reduceIte]⟩
      · rw [W_code_skip]
        exact ⟨rfl, rfl, rfl, a, ha, by simp only [aevO_tmp, Tr.get_set, Nat.reduceEqDiff, ↓reduceIte, tmpsOf, Nat.zero_add, Nat.reduceAdd], by simp only [aevO_tmp, Tr.get_set, Nat.reduceEqDiff, ↓reduceIte, tmpsOf, Nat.zero_add, Nat.reduceAdd], by simp only [aevO_tmp, Tr.get_set, Nat.reduceEqDiff, ↓reduceIte]⟩
    rintro ⟨e, ⟨t, d⟩⟩ s' ⟨he, hs, hd, A, hA, g0, g1, g9⟩
    dsimp only at he hd g0 g1 g9
    subst he hd hs
    dsimp only
    have hAl := hA.1
    have hbl := hb.1
    unfold short at hAl hbl
    rw [W_seq]
    refine W_q (callOf_eq cRB) (.inl rfl) (by simp only [List.toList_toArray]; rfl) (by simp only [dsts]; rfl) ?_; (repeat (refine q_op (by simp only [wantG, dsts, List.getElem?_cons_zero, List.getElem?_cons_succ, Tr.get_set, Tr.get_leaf, Nat.reduceEqDiff, ↓reduceIte, g0, g1, alen_ill]; rfl) ?_; first | (refine q_t ⟨_, _, by simp only [qop_move, qop_assign, qop_pick, qop_build, qop_nilCheck, qop_binOp, qop_unOp, qop_convert, qop_makeInterface, qop_slice, qop_fieldAddr, qop_field, qop_indexAddr, qop_index, qop_extract, qop_len, qop_min, qop_max, qop_call, qop_makeFunc, qop_load, qop_typeAssert, aevO_bool, aevO_int, aevO_tmp, aevO_func, aevO_snil, Tr.get_set, Tr.get_leaf, tmpsOf, evs, evo, evps, und34, und40, und3, und2, abin, aint, notGuarded, isConstO, Bool.or_true, Bool.true_or, Bool.or_false, Nat.reduceEqDiff, ↓reduceIte, Nat.reduceAdd, Nat.zero_add, List.length_map, reduceCtorEq, alen_vl und34, alen_vl und40, alen_nil und34, Array.toList, List.append_nil, List.nil_append, List.cons_append, aun, Bool.not_true, Bool.not_false, aconv, amin, und5, g0, g1, alen_ill]; rfl, rfl, by decide, ?_⟩) | (refine q_f ⟨_, rfl, by decide, ?_⟩))); refine q_nil ?_; dsimp only
    rw [W_seq, W_seq]
    refine W_q (callOf_eq cRB) (.inl rfl) (by simp only [List.toList_toArray]; rfl) (by simp only [dsts]; rfl) ?_; (repeat (refine q_op (by simp only [wantG, dsts, List.getElem?_cons_zero, List.getElem?_cons_succ, Tr.get_set, Tr.get_leaf, Nat.reduceEqDiff, ↓reduceIte]; rfl) ?_; first | (refine q_t ⟨_, _, by simp only [qop_move, qop_assign, qop_pick, qop_build, qop_nilCheck, qop_binOp, qop_unOp, qop_convert, qop_makeInterface, qop_slice, qop_fieldAddr, qop_field, qop_indexAddr, qop_index, qop_extract, qop_len, qop_min, qop_max, qop_call, qop_makeFunc, qop_load, qop_typeAssert, aevO_bool, aevO_int, aevO_tmp, aevO_func, aevO_snil, Tr.get_set, Tr.get_leaf, tmpsOf, evs, evo, evps, und34, und40, und3, und2, abin, aint, notGuarded, isConstO, Bool.or_true, Bool.true_or, Bool.or_false, Nat.reduceEqDiff, ↓reduceIte, Nat.reduceAdd, Nat.zero_add, List.length_map, reduceCtorEq, alen_vl und34, alen_vl und40, alen_nil und34, Array.toList, List.append_nil, List.nil_append, List.cons_append, aun, Bool.not_true, Bool.not_false, aconv, amin, und5]; rfl, rfl, by decide, ?_⟩) | (refine q_f ⟨_, rfl, by decide, ?_⟩))); refine q_nil ?_; dsimp only
    refine W.mono (Q := fun r s' => r.1 = AExit.normal ∧ s' = AS.empty ∧ r.2.d = [] ∧ r.2.t.get 0 = some (ill A) ∧ r.2.t.get 1 = some (ill b) ∧ r.2.t.get 9 = some (.bool true) ∧ r.2.t.get 10 = some (.bool (beg A b))) ?_ ?_
    · rw [W_block]
      refine W_loop C _ 110 _ _ _ _ (fun m x s => ∃ (i : Nat) (w : Bool), m = A.length - i ∧ i ≤ A.length ∧ (w = true → A.length ≤ b.length ∧ A.take i = b.take i) ∧ (w = false → beg A b = false) ∧ s = AS.empty ∧ x.d = [] ∧ x.t.get 0 = some (ill A) ∧ x.t.get 1 = some (ill b) ∧ x.t.get 9 = some (.bool true) ∧ x.t.get 10 = some (.bool w) ∧ x.t.get 11 = some (.int .i64 i))
        ?_ (m := A.length) ⟨0, decide (A.length ≤ b.length), rfl, Nat.zero_le _, fun h => ⟨by simpa using h, rfl⟩, fun h => (by simp [beg, of_decide_eq_false h]), rfl, rfl, by simp only [aevO_tmp, Tr.get_set, Nat.reduceEqDiff, ↓reduceIte, g0], by simp only [aevO_tmp, Tr.get_set, Nat.reduceEqDiff, ↓reduceIte, g1], by simp only [aevO_tmp, Tr.get_set, Nat.reduceEqDiff, ↓reduceIte, g9], by simp only [aevO_tmp, Tr.get_set, Nat.reduceEqDiff, ↓reduceIte]; simp, by simp only [aevO_tmp, Tr.get_set, Nat.reduceEqDiff, ↓reduceIte]; rfl⟩ (by omega)
      rintro m ⟨t, d⟩ s ⟨i, w, rfl, hi, hwt, hwf, rfl, hd, g0, g1, g9, g10, g11⟩
      dsimp only at hd g0 g1 g9 g10 g11
      subst hd
      rw [W_seq, W_seq]
      by_cases hlt : i < A.length
      · have hd1 : decide ((i : Int) < (A.length : Int)) = true := by simpa using hlt
        refine W_q (callOf_eq cRB) (.inl rfl) (by simp only [List.toList_toArray]; rfl) (by simp only [dsts]; rfl) ?_; (repeat (refine q_op (by simp only [wantG, dsts, List.getElem?_cons_zero, List.getElem?_cons_succ, Tr.get_set, Tr.get_leaf, Nat.reduceEqDiff, ↓reduceIte, g0, g1, g9, g10, g11, alen_ill, hd1]; rfl) ?_; first | (refine q_t ⟨_, _, by simp only [qop_move, qop_assign, qop_pick, qop_build, qop_nilCheck, qop_binOp, qop_unOp, qop_convert, qop_makeInterface, qop_slice, qop_fieldAddr, qop_field, qop_indexAddr, qop_index, qop_extract, qop_len, qop_min, qop_max, qop_call, qop_makeFunc, qop_load, qop_typeAssert, aevO_bool, aevO_int, aevO_tmp, aevO_func, aevO_snil, Tr.get_set, Tr.get_leaf, tmpsOf, evs, evo, evps, und34, und40, und3, und2, abin, aint, notGuarded, isConstO, Bool.or_true, Bool.true_or, Bool.or_false, Nat.reduceEqDiff, ↓reduceIte, Nat.reduceAdd, Nat.zero_add, List.length_map, reduceCtorEq, alen_vl und34, alen_vl und40, alen_nil und34, Array.toList, List.append_nil, List.nil_append, List.cons_append, aun, Bool.not_true, Bool.not_false, aconv, amin, und5, g0, g1, g9, g10, g11, alen_ill, hd1]; rfl, rfl, by decide, ?_⟩) | (refine q_f ⟨_, rfl, by decide, ?_⟩))); refine q_nil ?_; dsimp only
        refine W_condB _ _ _ _ _ _ _ (p := w) (by simp only [aevO_tmp, Tr.get_set, Nat.reduceEqDiff, ↓reduceIte]) (fun hw => ?_) (fun hw => ?_)
        · rw [W_code_skip]
          subst hw
          obtain ⟨hle, htk⟩ := hwt rfl
          have hlt2 : i < b.length := by omega
          have hX := shorts_get hA i
          have hY := shorts_get hb i
          dsimp only
          rw [W_seq]
          refine W.mono (Q := fun r s' => r.1 = AExit.normal ∧ s' = AS.empty ∧ r.2.d = [] ∧ r.2.t.get 0 = some (ill A) ∧ r.2.t.get 1 = some (ill b) ∧ r.2.t.get 9 = some (.bool true) ∧ r.2.t.get 11 = some (.int .i64 i) ∧ r.2.t.get 10 = some (.bool (decide (A.getD i [] = b.getD i [])))) ?_ ?_
          · rw [W_block, W_seq, W_seq]
            refine W_q (callOf_eq cRB) (.inr (by kernel_rfl)) (by simp only [List.toList_toArray]; rfl) (by simp only [dsts]; rfl) ?_; (repeat (refine q_op (by simp only [wantG, dsts, List.getElem?_cons_zero, List.getElem?_cons_succ, Tr.get_set, Tr.get_leaf, Nat.reduceEqDiff, ↓reduceIte, g0, g1, g9, g10, g11, idx_ill hlt, idx_ill hlt2, afptr, load_scal scal40, alen_il]; rfl) ?_; first | (refine q_t ⟨_, _, by simp only [qop_move, qop_assign, qop_pick, qop_build, qop_nilCheck, qop_binOp, qop_unOp, qop_convert, qop_makeInterface, qop_slice, qop_fieldAddr, qop_field, qop_indexAddr, qop_index, qop_extract, qop_len, qop_min, qop_max, qop_call, qop_makeFunc, qop_load, qop_typeAssert, aevO_bool, aevO_int, aevO_tmp, aevO_func, aevO_snil, Tr.get_set, Tr.get_leaf, tmpsOf, evs, evo, evps, und34, und40, und3, und2, abin, aint, notGuarded, isConstO, Bool.or_true, Bool.true_or, Bool.or_false, Nat.reduceEqDiff, ↓reduceIte, Nat.reduceAdd, Nat.zero_add, List.length_map, reduceCtorEq, alen_vl und34, alen_vl und40, alen_nil und34, Array.toList, List.append_nil, List.nil_append, List.cons_append, aun, Bool.not_true, Bool.not_false, aconv, amin, und5, g0, g1, g9, g10, g11, idx_ill hlt, idx_ill hlt2, afptr, load_scal scal40, alen_il]; rfl, rfl, by decide, ?_⟩) | (refine q_f ⟨_, rfl, by decide, ?_⟩))); refine q_nil ?_; dsimp only
            generalize hXd : A.getD i [] = X at hX ⊢
            generalize hYd : b.getD i [] = Y at hY ⊢
            unfold short at hX hY
            refine W.mono (Q := fun r s' => r.1 = AExit.normal ∧ s' = AS.empty ∧ r.2.d = [] ∧ r.2.t.get 0 = some (ill A) ∧ r.2.t.get 1 = some (ill b) ∧ r.2.t.get 9 = some (.bool true) ∧ r.2.t.get 11 = some (.int .i64 i) ∧ r.2.t.get 10 = some (.bool (decide (X.length = Y.length)))) ?_ ?_
            · refine W_condB _ _ _ _ _ _ _ (p := ((X.length : Int) != (Y.length : Int))) (by simp only [aevO_tmp, Tr.get_set, Nat.reduceEqDiff, ↓reduceIte]) (fun hne => ?_) (fun heq => ?_)
              · refine W_q (callOf_eq cRB) (.inl rfl) (by simp only [List.toList_toArray]; rfl) (by simp only [dsts]; rfl) ?_; (repeat (refine q_op (by simp only [wantG, dsts, List.getElem?_cons_zero, List.getElem?_cons_succ, Tr.get_set, Tr.get_leaf, Nat.reduceEqDiff, ↓reduceIte]; rfl) ?_; first | (refine q_t ⟨_, _, by simp only [qop_move, qop_assign, qop_pick, qop_build, qop_nilCheck, qop_binOp, qop_unOp, qop_convert, qop_makeInterface, qop_slice, qop_fieldAddr, qop_field, qop_indexAddr, qop_index, qop_extract, qop_len, qop_min, qop_max, qop_call, qop_makeFunc, qop_load, qop_typeAssert, aevO_bool, aevO_int, aevO_tmp, aevO_func, aevO_snil, Tr.get_set, Tr.get_leaf, tmpsOf, evs, evo, evps, und34, und40, und3, und2, abin, aint, notGuarded, isConstO, Bool.or_true, Bool.true_or, Bool.or_false, Nat.reduceEqDiff, ↓reduceIte, Nat.reduceAdd, Nat.zero_add, List.length_map, reduceCtorEq, alen_vl und34, alen_vl und40, alen_nil und34, Array.toList, List.append_nil, List.nil_append, List.cons_append, aun, Bool.not_true, Bool.not_false, aconv, amin, und5]; rfl, rfl, by decide, ?_⟩) | (refine q_f ⟨_, rfl, by decide, ?_⟩))); refine q_nil ?_; dsimp only
                refine ⟨rfl, rfl, rfl, by simp only [aevO_tmp, Tr.get_set, Nat.reduceEqDiff, ↓reduceIte, g0], by simp only [aevO_tmp, Tr.get_set, Nat.reduceEqDiff, ↓reduceIte, g1], by simp only [aevO_tmp, Tr.get_set, Nat.reduceEqDiff, ↓reduceIte, g9], by simp only [aevO_tmp, Tr.get_set, Nat.reduceEqDiff, ↓reduceIte, g11], ?_⟩
                simp only [aevO_tmp, Tr.get_set, Nat.reduceEqDiff, ↓reduceIte]
                simp at hne
                simp; omega
              · rw [W_code_skip]
                refine ⟨rfl, rfl, rfl, by simp only [aevO_tmp, Tr.get_set, Nat.reduceEqDiff, ↓reduceIte, g0], by simp only [aevO_tmp, Tr.get_set, Nat.reduceEqDiff, ↓reduceIte, g1], by simp only [aevO_tmp, Tr.get_set, Nat.reduceEqDiff, ↓reduceIte, g9], by simp only [aevO_tmp, Tr.get_set, Nat.reduceEqDiff, ↓reduceIte, g11], ?_⟩
                simp only [aevO_tmp, Tr.get_set, Nat.reduceEqDiff, ↓reduceIte, g10]
                simp at heq
                simp; omega
            rintro ⟨e, ⟨t, d⟩⟩ s' ⟨he, hs, hd, g0, g1, g9, g11, g10⟩
            dsimp only at he hd g0 g1 g9 g10 g11
            subst he hd hs
            dsimp only
            rw [W_seq]
            refine W_q (callOf_eq cRB) (.inl rfl) (by simp only [List.toList_toArray]; rfl) (by simp only [dsts]; rfl) ?_; (repeat (refine q_op (by simp only [wantG, dsts, List.getElem?_cons_zero, List.getElem?_cons_succ, Tr.get_set, Tr.get_leaf, Nat.reduceEqDiff, ↓reduceIte]; rfl) ?_; first | (refine q_t ⟨_, _, by simp only [qop_move, qop_assign, qop_pick, qop_build, qop_nilCheck, qop_binOp, qop_unOp, qop_convert, qop_makeInterface, qop_slice, qop_fieldAddr, qop_field, qop_indexAddr, qop_index, qop_extract, qop_len, qop_min, qop_max, qop_call, qop_makeFunc, qop_load, qop_typeAssert, aevO_bool, aevO_int, aevO_tmp, aevO_func, aevO_snil, Tr.get_set, Tr.get_leaf, tmpsOf, evs, evo, evps, und34, und40, und3, und2, abin, aint, notGuarded, isConstO, Bool.or_true, Bool.true_or, Bool.or_false, Nat.reduceEqDiff, ↓reduceIte, Nat.reduceAdd, Nat.zero_add, List.length_map, reduceCtorEq, alen_vl und34, alen_vl und40, alen_nil und34, Array.toList, List.append_nil, List.nil_append, List.cons_append, aun, Bool.not_true, Bool.not_false, aconv, amin, und5]; rfl, rfl, by decide, ?_⟩) | (refine q_f ⟨_, rfl, by decide, ?_⟩))); refine q_nil ?_; dsimp only
            rw [W_block]
            refine W_loop C _ 110 _ _ _ _ (fun m x s => ∃ (k : Nat) (w : Bool), m = X.length - k ∧ k ≤ X.length ∧ (w = true → X.length = Y.length ∧ X.take k = Y.take k) ∧ (w = false → X ≠ Y) ∧ s = AS.empty ∧ x.d = [] ∧ x.t.get 0 = some (ill A) ∧ x.t.get 1 = some (ill b) ∧ x.t.get 9 = some (.bool true) ∧ x.t.get 10 = some (.bool w) ∧ x.t.get 11 = some (.int .i64 i) ∧ x.t.get 12 = some (.int .i64 k))
              ?_ (m := X.length) ⟨0, decide (X.length = Y.length), rfl, Nat.zero_le _, fun h => ⟨by simpa using h, rfl⟩, fun h => (by rintro rfl; simp at h), rfl, rfl, by simp only [aevO_tmp, Tr.get_set, Nat.reduceEqDiff, ↓reduceIte, g0], by simp only [aevO_tmp, Tr.get_set, Nat.reduceEqDiff, ↓reduceIte, g1], by simp only [aevO_tmp, Tr.get_set, Nat.reduceEqDiff, ↓reduceIte, g9], by simp only [aevO_tmp, Tr.get_set, Nat.reduceEqDiff, ↓reduceIte, g10], by simp only [aevO_tmp, Tr.get_set, Nat.reduceEqDiff, ↓reduceIte, g11], by simp only [aevO_tmp, Tr.get_set, Nat.reduceEqDiff, ↓reduceIte]; rfl⟩ (by omega)
            rintro m ⟨t, d⟩ s ⟨k, w, rfl, hk, hwt, hwf, rfl, hd, g0, g1, g9, g10, g11, g12⟩
            dsimp only at hd g0 g1 g9 g10 g11 g12
            subst hd
            rw [W_seq, W_seq]
            have eX := idx_ill hlt
            have eY := idx_ill hlt2
            rw [hXd] at eX
            rw [hYd] at eY
            by_cases hkl : k < X.length
            · have hd2 : decide ((k : Int) < (X.length : Int)) = true := by simpa using hkl
              refine W_q (callOf_eq cRB) (.inl rfl) (by simp only [List.toList_toArray]; rfl) (by simp only [dsts]; rfl) ?_; (repeat (refine q_op (by simp only [wantG, dsts, List.getElem?_cons_zero, List.getElem?_cons_succ, Tr.get_set, Tr.get_leaf, Nat.reduceEqDiff, ↓reduceIte, g0, g1, g9, g10, g11, g12, eX, afptr, load_scal scal40, alen_il, hd2]; rfl) ?_; first | (refine q_t ⟨_, _, by simp only [qop_move, qop_assign, qop_pick, qop_build, qop_nilCheck, qop_binOp, qop_unOp, qop_convert, qop_makeInterface, qop_slice, qop_fieldAddr, qop_field, qop_indexAddr, qop_index, qop_extract, qop_len, qop_min, qop_max, qop_call, qop_makeFunc, qop_load, qop_typeAssert, aevO_bool, aevO_int, aevO_tmp, aevO_func, aevO_snil, Tr.get_set, Tr.get_leaf, tmpsOf, evs, evo, evps, und34, und40, und3, und2, abin, aint, notGuarded, isConstO, Bool.or_true, Bool.true_or, Bool.or_false, Nat.reduceEqDiff, ↓reduceIte, Nat.reduceAdd, Nat.zero_add, List.length_map, reduceCtorEq, alen_vl und34, alen_vl und40, alen_nil und34, Array.toList, List.append_nil, List.nil_append, List.cons_append, aun, Bool.not_true, Bool.not_false, aconv, amin, und5, g0, g1, g9, g10, g11, g12, eX, afptr, load_scal scal40, alen_il, hd2]; rfl, rfl, by decide, ?_⟩) | (refine q_f ⟨_, rfl, by decide, ?_⟩))); refine q_nil ?_; dsimp only
              refine W_condB _ _ _ _ _ _ _ (p := w) (by simp only [aevO_tmp, Tr.get_set, Nat.reduceEqDiff, ↓reduceIte]) (fun hw => ?_) (fun hw => ?_)
              · rw [W_code_skip]
                subst hw
                obtain ⟨hleq, htk2⟩ := hwt rfl
                have hkl2 : k < Y.length := by omega
                dsimp only
                rw [W_seq, W_block]
                refine W_q (callOf_eq cRB) (.inr (by kernel_rfl)) (by simp only [List.toList_toArray]; rfl) (by simp only [dsts]; rfl) ?_; (repeat (refine q_op (by simp only [wantG, dsts, List.getElem?_cons_zero, List.getElem?_cons_succ, Tr.get_set, Tr.get_leaf, Nat.reduceEqDiff, ↓reduceIte, g0, g1, g9, g10, g11, g12, eX, eY, idx_il hkl, idx_il hkl2, afptr, load_scal scal40, load_scal scal2, iv]; rfl) ?_; first | (refine q_t ⟨_, _, by simp only [qop_move, qop_assign, qop_pick, qop_build, qop_nilCheck, qop_binOp, qop_unOp, qop_convert, qop_makeInterface, qop_slice, qop_fieldAddr, qop_field, qop_indexAddr, qop_index, qop_extract, qop_len, qop_min, qop_max, qop_call, qop_makeFunc, qop_load, qop_typeAssert, aevO_bool, aevO_int, aevO_tmp, aevO_func, aevO_snil, Tr.get_set, Tr.get_leaf, tmpsOf, evs, evo, evps, und34, und40, und3, und2, abin, aint, notGuarded, isConstO, Bool.or_true, Bool.true_or, Bool.or_false, Nat.reduceEqDiff, ↓reduceIte, Nat.reduceAdd, Nat.zero_add, List.length_map, reduceCtorEq, alen_vl und34, alen_vl und40, alen_nil und34, Array.toList, List.append_nil, List.nil_append, List.cons_append, aun, Bool.not_true, Bool.not_false, aconv, amin, und5, g0, g1, g9, g10, g11, g12, eX, eY, idx_il hkl, idx_il hkl2, afptr, load_scal scal40, load_scal scal2, iv]; rfl, rfl, by decide, ?_⟩) | (refine q_f ⟨_, rfl, by decide, ?_⟩))); refine q_nil ?_; dsimp only
                refine W_q (callOf_eq cRB) (.inl rfl) (by simp only [List.toList_toArray]; rfl) (by simp only [dsts]; rfl) ?_; (repeat (refine q_op (by simp only [wantG, dsts, List.getElem?_cons_zero, List.getElem?_cons_succ, Tr.get_set, Tr.get_leaf, Nat.reduceEqDiff, ↓reduceIte, g12]; rfl) ?_; first | (refine q_t ⟨_, _, by simp only [qop_move, qop_assign, qop_pick, qop_build, qop_nilCheck, qop_binOp, qop_unOp, qop_convert, qop_makeInterface, qop_slice, qop_fieldAddr, qop_field, qop_indexAddr, qop_index, qop_extract, qop_len, qop_min, qop_max, qop_call, qop_makeFunc, qop_load, qop_typeAssert, aevO_bool, aevO_int, aevO_tmp, aevO_func, aevO_snil, Tr.get_set, Tr.get_leaf, tmpsOf, evs, evo, evps, und34, und40, und3, und2, abin, aint, notGuarded, isConstO, Bool.or_true, Bool.true_or, Bool.or_false, Nat.reduceEqDiff, ↓reduceIte, Nat.reduceAdd, Nat.zero_add, List.length_map, reduceCtorEq, alen_vl und34, alen_vl und40, alen_nil und34, Array.toList, List.append_nil, List.nil_append, List.cons_append, aun, Bool.not_true, Bool.not_false, aconv, amin, und5, g12]; rfl, rfl, by decide, ?_⟩) | (refine q_f ⟨_, rfl, by decide, ?_⟩))); refine q_nil ?_; dsimp only
                refine ⟨X.length - (k + 1), by omega, k + 1, X.getD k 0 == Y.getD k 0, rfl, by omega, ?_, ?_, rfl, rfl, by simp only [aevO_tmp, Tr.get_set, Nat.reduceEqDiff, ↓reduceIte, g0], by simp only [aevO_tmp, Tr.get_set, Nat.reduceEqDiff, ↓reduceIte, g1], by simp only [aevO_tmp, Tr.get_set, Nat.reduceEqDiff, ↓reduceIte, g9], by simp only [aevO_tmp, Tr.get_set, Nat.reduceEqDiff, ↓reduceIte], by simp only [aevO_tmp, Tr.get_set, Nat.reduceEqDiff, ↓reduceIte, g11], by simp only [aevO_tmp, Tr.get_set, Nat.reduceEqDiff, ↓reduceIte]; rw [wrap_succ k (by omega)]⟩
                · intro h
                  have h : X.getD k 0 = Y.getD k 0 := by simpa using h
                  exact ⟨hleq, by rw [take_succ_getD X k hkl, take_succ_getD Y k hkl2, htk2, h]⟩
                · intro h
                  rintro rfl
                  simp at h
              · rw [W_code_exit]
                refine ⟨rfl, rfl, rfl, by simp only [aevO_tmp, Tr.get_set, Nat.reduceEqDiff, ↓reduceIte, g0], by simp only [aevO_tmp, Tr.get_set, Nat.reduceEqDiff, ↓reduceIte, g1], by simp only [aevO_tmp, Tr.get_set, Nat.reduceEqDiff, ↓reduceIte, g9], by simp only [aevO_tmp, Tr.get_set, Nat.reduceEqDiff, ↓reduceIte, g11], ?_⟩
                simp only [aevO_tmp, Tr.get_set, Nat.reduceEqDiff, ↓reduceIte, g10]
                rw [hw]
                have := hwf hw
                simp [this]
            · have hd2 : decide ((k : Int) < (X.length : Int)) = false := by simpa using hkl
              have hk2 : k = X.length := by omega
              subst hk2
              refine W_q (callOf_eq cRB) (.inl rfl) (by simp only [List.toList_toArray]; rfl) (by simp only [dsts]; rfl) ?_; (repeat (refine q_op (by simp only [wantG, dsts, List.getElem?_cons_zero, List.getElem?_cons_succ, Tr.get_set, Tr.get_leaf, Nat.reduceEqDiff, ↓reduceIte, g0, g1, g9, g10, g11, g12, eX, afptr, load_scal scal40, alen_il, hd2]; rfl) ?_; first | (refine q_t ⟨_, _, by simp only [qop_move, qop_assign, qop_pick, qop_build, qop_nilCheck, qop_binOp, qop_unOp, qop_convert, qop_makeInterface, qop_slice, qop_fieldAddr, qop_field, qop_indexAddr, qop_index, qop_extract, qop_len, qop_min, qop_max, qop_call, qop_makeFunc, qop_load, qop_typeAssert, aevO_bool, aevO_int, aevO_tmp, aevO_func, aevO_snil, Tr.get_set, Tr.get_leaf, tmpsOf, evs, evo, evps, und34, und40, und3, und2, abin, aint, notGuarded, isConstO, Bool.or_true, Bool.true_or, Bool.or_false, Nat.reduceEqDiff, ↓reduceIte, Nat.reduceAdd, Nat.zero_add, List.length_map, reduceCtorEq, alen_vl und34, alen_vl und40, alen_nil und34, Array.toList, List.append_nil, List.nil_append, List.cons_append, aun, Bool.not_true, Bool.not_false, aconv, amin, und5, g0, g1, g9, g10, g11, g12, eX, afptr, load_scal scal40, alen_il, hd2]; rfl, rfl, by decide, ?_⟩) | (refine q_f ⟨_, rfl, by decide, ?_⟩))); refine q_nil ?_; dsimp only
              refine W_condB _ _ _ _ _ _ _ (p := false) (by simp only [aevO_tmp, Tr.get_set, Nat.reduceEqDiff, ↓reduceIte]) (fun h => by cases h) (fun _ => ?_)
              rw [W_code_exit]
              refine ⟨rfl, rfl, rfl, by simp only [aevO_tmp, Tr.get_set, Nat.reduceEqDiff, ↓reduceIte, g0], by simp only [aevO_tmp, Tr.get_set, Nat.reduceEqDiff, ↓reduceIte, g1], by simp only [aevO_tmp, Tr.get_set, Nat.reduceEqDiff, ↓reduceIte, g9], by simp only [aevO_tmp, Tr.get_set, Nat.reduceEqDiff, ↓reduceIte, g11], ?_⟩
              simp only [aevO_tmp, Tr.get_set, Nat.reduceEqDiff, ↓reduceIte, g10]
              cases w with
              | false => simp [hwf rfl]
              | true =>
                obtain ⟨h1, h2⟩ := hwt rfl
                rw [List.take_length, h1, List.take_length] at h2
                simp [h2]
          rintro ⟨e, ⟨t, d⟩⟩ s' ⟨he, hs, hd, g0, g1, g9, g11, g10⟩
          dsimp only at he hd g0 g1 g9 g10 g11
          subst he hd hs
          dsimp only
          refine W_q (callOf_eq cRB) (.inl rfl) (by simp only [List.toList_toArray]; rfl) (by simp only [dsts]; rfl) ?_; (repeat (refine q_op (by simp only [wantG, dsts, List.getElem?_cons_zero, List.getElem?_cons_succ, Tr.get_set, Tr.get_leaf, Nat.reduceEqDiff, ↓reduceIte, g11]; rfl) ?_; first | (refine q_t ⟨_, _, by simp only [qop_move, qop_assign, qop_pick, qop_build, qop_nilCheck, qop_binOp, qop_unOp, qop_convert, qop_makeInterface, qop_slice, qop_fieldAddr, qop_field, qop_indexAddr, qop_index, qop_extract, qop_len, qop_min, qop_max, qop_call, qop_makeFunc, qop_load, qop_typeAssert, aevO_bool, aevO_int, aevO_tmp, aevO_func, aevO_snil, Tr.get_set, Tr.get_leaf, tmpsOf, evs, evo, evps, und34, und40, und3, und2, abin, aint, notGuarded, isConstO, Bool.or_true, Bool.true_or, Bool.or_false, Nat.reduceEqDiff, ↓reduceIte, Nat.reduceAdd, Nat.zero_add, List.length_map, reduceCtorEq, alen_vl und34, alen_vl und40, alen_nil und34, Array.toList, List.append_nil, List.nil_append, List.cons_append, aun, Bool.not_true, Bool.not_false, aconv, amin, und5, g11]; rfl, rfl, by decide, ?_⟩) | (refine q_f ⟨_, rfl, by decide, ?_⟩))); refine q_nil ?_; dsimp only
          refine ⟨A.length - (i + 1), by omega, i + 1, decide (A.getD i [] = b.getD i []), rfl, by omega, ?_, ?_, rfl, rfl, by simp only [aevO_tmp, Tr.get_set, Nat.reduceEqDiff, ↓reduceIte, g0], by simp only [aevO_tmp, Tr.get_set, Nat.reduceEqDiff, ↓reduceIte, g1], by simp only [aevO_tmp, Tr.get_set, Nat.reduceEqDiff, ↓reduceIte, g9], by simp only [aevO_tmp, Tr.get_set, Nat.reduceEqDiff, ↓reduceIte, g10], by simp only [aevO_tmp, Tr.get_set, Nat.reduceEqDiff, ↓reduceIte]; rw [wrap_succ i (by omega)]⟩
          · intro h
            have h := of_decide_eq_true h
            exact ⟨hle, by rw [take_succ_getL A i hlt, take_succ_getL b i hlt2, htk, h]⟩
          · intro h
            exact beg_false hlt (of_decide_eq_false h)
        · rw [W_code_exit]
          refine ⟨rfl, rfl, rfl, by simp only [aevO_tmp, Tr.get_set, Nat.reduceEqDiff, ↓reduceIte, g0], by simp only [aevO_tmp, Tr.get_set, Nat.reduceEqDiff, ↓reduceIte, g1], by simp only [aevO_tmp, Tr.get_set, Nat.reduceEqDiff, ↓reduceIte, g9], ?_⟩
          simp only [aevO_tmp, Tr.get_set, Nat.reduceEqDiff, ↓reduceIte, g10]
          rw [hw, hwf hw]
      · have hd1 : decide ((i : Int) < (A.length : Int)) = false := by simpa using hlt
        have hi2 : i = A.length := by omega
        subst hi2
        refine W_q (callOf_eq cRB) (.inl rfl) (by simp only [List.toList_toArray]; rfl) (by simp only [dsts]; rfl) ?_; (repeat (refine q_op (by simp only [wantG, dsts, List.getElem?_cons_zero, List.getElem?_cons_succ, Tr.get_set, Tr.get_leaf, Nat.reduceEqDiff, ↓reduceIte, g0, g1, g9, g10, g11, alen_ill, hd1]; rfl) ?_; first | (refine q_t ⟨_, _, by simp only [qop_move, qop_assign, qop_pick, qop_build, qop_nilCheck, qop_binOp, qop_unOp, qop_convert, qop_makeInterface, qop_slice, qop_fieldAddr, qop_field, qop_indexAddr, qop_index, qop_extract, qop_len, qop_min, qop_max, qop_call, qop_makeFunc, qop_load, qop_typeAssert, aevO_bool, aevO_int, aevO_tmp, aevO_func, aevO_snil, Tr.get_set, Tr.get_leaf, tmpsOf, evs, evo, evps, und34, und40, und3, und2, abin, aint, notGuarded, isConstO, Bool.or_true, Bool.true_or, Bool.or_false, Nat.reduceEqDiff, ↓reduceIte, Nat.reduceAdd, Nat.zero_add, List.length_map, reduceCtorEq, alen_vl und34, alen_vl und40, alen_nil und34, Array.toList, List.append_nil, List.nil_append, List.cons_append, aun, Bool.not_true, Bool.not_false, aconv, amin, und5, g0, g1, g9, g10, g11, alen_ill, hd1]; rfl, rfl, by decide, ?_⟩) | (refine q_f ⟨_, rfl, by decide, ?_⟩))); refine q_nil ?_; dsimp only
        refine W_condB _ _ _ _ _ _ _ (p := false) (by simp only [aevO_tmp, Tr.get_set, Nat.reduceEqDiff, ↓reduceIte]) (fun h => by cases h) (fun _ => ?_)
        rw [W_code_exit]
        refine ⟨rfl, rfl, rfl, by simp only [aevO_tmp, Tr.get_set, Nat.reduceEqDiff, ↓reduceIte, g0], by simp only [aevO_tmp, Tr.get_set, Nat.reduceEqDiff, ↓reduceIte, g1], by simp only [aevO_tmp, Tr.get_set, Nat.reduceEqDiff, ↓reduceIte, g9], ?_⟩
        simp only [aevO_tmp, Tr.get_set, Nat.reduceEqDiff, ↓reduceIte, g10]
        cases w with
        | false => rw [hwf rfl]
        | true =>
          obtain ⟨h1, h2⟩ := hwt rfl
          rw [List.take_length] at h2
          simp [beg, h1, ← h2]
    rintro ⟨e, ⟨t, d⟩⟩ s' ⟨he, hs, hd, g0, g1, g9, g10⟩
    dsimp only at he hd g0 g1 g9 g10
    subst he hd hs
    dsimp only
    rw [W_seq]
    have hsb := same_beg A b
    have q1 := cRB_25 A b hA
    have q2 := cRB_25 A A hA
    have q3 := cRB_25n A
    have q4 := cRB_23 A b hA
    rw [beg_self] at q2
    rw [hsb] at q4
    cases hbg : beg A b with
    | true =>
      rw [hbg] at q1 q4 g10
      refine W_q (callOf_eq cRB) (.inl rfl) (by simp only [List.toList_toArray]; rfl) (by simp only [dsts]; rfl) ?_; (repeat (refine q_op (by simp only [wantG, dsts, List.getElem?_cons_zero, List.getElem?_cons_succ, Tr.get_set, Tr.get_leaf, Nat.reduceEqDiff, ↓reduceIte, g0, g1, g9, g10, fn25, fn23, q1, q2, q3, q4, build36, alen_ill, beq_self_eq_true]; rfl) ?_; first | (refine q_t ⟨_, _, by simp only [qop_move, qop_assign, qop_pick, qop_build, qop_nilCheck, qop_binOp, qop_unOp, qop_convert, qop_makeInterface, qop_slice, qop_fieldAddr, qop_field, qop_indexAddr, qop_index, qop_extract, qop_len, qop_min, qop_max, qop_call, qop_makeFunc, qop_load, qop_typeAssert, aevO_bool, aevO_int, aevO_tmp, aevO_func, aevO_snil, Tr.get_set, Tr.get_leaf, tmpsOf, evs, evo, evps, und34, und40, und3, und2, abin, aint, notGuarded, isConstO, Bool.or_true, Bool.true_or, Bool.or_false, Nat.reduceEqDiff, ↓reduceIte, Nat.reduceAdd, Nat.zero_add, List.length_map, reduceCtorEq, alen_vl und34, alen_vl und40, alen_nil und34, Array.toList, List.append_nil, List.nil_append, List.cons_append, aun, Bool.not_true, Bool.not_false, aconv, amin, und5, g0, g1, g9, g10, fn25, fn23, q1, q2, q3, q4, build36, alen_ill, beq_self_eq_true]; rfl, rfl, by decide, ?_⟩) | (refine q_f ⟨_, rfl, by decide, ?_⟩))); refine q_nil ?_; dsimp only
      rw [W_code_ret]
      refine ⟨.inr rfl, rfl, ?_⟩
      simp only [aevO_tmp, Tr.get_set, Nat.reduceEqDiff, ↓reduceIte]
      simp
      rw [Bool.eq_iff_iff]
      simp
      omega
    | false =>
      rw [hbg] at q1 q4 g10
      refine W_q (callOf_eq cRB) (.inl rfl) (by simp only [List.toList_toArray]; rfl) (by simp only [dsts]; rfl) ?_; (repeat (refine q_op (by simp only [wantG, dsts, List.getElem?_cons_zero, List.getElem?_cons_succ, Tr.get_set, Tr.get_leaf, Nat.reduceEqDiff, ↓reduceIte, g0, g1, g9, g10, fn25, fn23, q1, q2, q3, q4, build36, alen_ill, beq_self_eq_true]; rfl) ?_; first | (refine q_t ⟨_, _, by simp only [qop_move, qop_assign, qop_pick, qop_build, qop_nilCheck, qop_binOp, qop_unOp, qop_convert, qop_makeInterface, qop_slice, qop_fieldAddr, qop_field, qop_indexAddr, qop_index, qop_extract, qop_len, qop_min, qop_max, qop_call, qop_makeFunc, qop_load, qop_typeAssert, aevO_bool, aevO_int, aevO_tmp, aevO_func, aevO_snil, Tr.get_set, Tr.get_leaf, tmpsOf, evs, evo, evps, und34, und40, und3, und2, abin, aint, notGuarded, isConstO, Bool.or_true, Bool.true_or, Bool.or_false, Nat.reduceEqDiff, ↓reduceIte, Nat.reduceAdd, Nat.zero_add, List.length_map, reduceCtorEq, alen_vl und34, alen_vl und40, alen_nil und34, Array.toList, List.append_nil, List.nil_append, List.cons_append, aun, Bool.not_true, Bool.not_false, aconv, amin, und5, g0, g1, g9, g10, fn25, fn23, q1, q2, q3, q4, build36, alen_ill, beq_self_eq_true]; rfl, rfl, by decide, ?_⟩) | (refine q_f ⟨_, rfl, by decide, ?_⟩))); refine q_nil ?_; dsimp only
      rw [W_code_ret]
      refine ⟨.inr rfl, rfl, ?_⟩
      simp only [aevO_tmp, Tr.get_set, Nat.reduceEqDiff, ↓reduceIte]
      rfl
end
end Go.Proofs.BhE.T
