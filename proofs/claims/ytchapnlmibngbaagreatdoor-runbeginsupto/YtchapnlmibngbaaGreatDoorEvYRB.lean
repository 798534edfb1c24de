/- The functions that RunBegins calls. -/
import Derived.Test.YtchapnlmibngbaaGreatDoorEvS08
import Derived.Test.YtchapnlmibngbaaGreatDoorEvX6
set_option linter.all false
open Go Go.Proofs Go.Proofs.BhE
namespace Go.Proofs.BhE.T
noncomputable section
set_option maxRecDepth 100000
set_option maxHeartbeats 1000000
set_option linter.unusedSimpArgs false
theorem und34 : C.und 34 = some (.slice 40) := by unfold C; exact Tryz.underlying34
theorem und40 : C.und 40 = some (.slice 2) := by unfold C; exact Tryz.underlying40
theorem und3 : C.und 3 = some (.int .i64) := by unfold C; exact Tryz.underlying3
theorem und2 : C.und 2 = some (.int .i64) := by unfold C; exact Tryz.underlying2
theorem scal2 : Scal C 2 := ⟨⟨_, und2, rfl⟩, ⟨_, by unfold C; rfl, rfl⟩⟩
theorem scal40 : Scal C 40 := ⟨⟨_, und40, rfl⟩, ⟨_, by unfold C; rfl, rfl⟩⟩
def iv (n : Int) : Value := .int .i64 n
def il (xs : List Int) : Value := vl (xs.map iv)
def ill (a : List (List Int)) : Value := vl (a.map il)
theorem iv_inj (x y : Int) (h : iv x = iv y) : x = y := by unfold iv at h; injection h
theorem il_inj (x y : List Int) (h : il x = il y) : x = y := map_inj iv_inj (vl_inj h)
theorem ill_inj (x y : List (List Int)) (h : ill x = ill y) : x = y := map_inj il_inj (vl_inj h)
theorem below_vl (n d : Nat) (l : List Value) : below n (d + 1) (vl l) = true := by simp [below, vl, Nat.blt]
/-! ### slices.Equal -/
theorem take_succ_getD (xs : List Int) (i : Nat) (h : i < xs.length) : xs.take (i + 1) = xs.take i ++ [xs.getD i 0] := by
  rw [List.take_succ_eq_append_getElem h]
  simp [h]
theorem il_get (xs : List Int) (i : Nat) (h : i < xs.length) : (xs.map iv)[i]? = some (iv (xs.getD i 0)) := by simp [h, iv]
def short {α : Type} (l : List α) : Prop := l.length < 1000000000000000

theorem equal_pure (xs ys : List Int) (hl : short xs) : PureFn Tryz.prog 47 [il xs, il ys] (.returned (.bool (decide (xs = ys)))) := by
  unfold short at hl
  refine pure_of_code C_ok mixed (callOf_ok callNil_ok) (fn := Tryz.f47) (loops := xs.length + 2) (r := 4) (by unfold C; exact Tryz.func47) rfl rfl (by rw [Tryz.ntmps47]; simp) ?_ rfl (settle_bool C 47 _) ?_
  · rfl
  · show W (acode C (callOf callNil) 26 _ _ _) _ _
    rw [W_seq]
    refine W_q (callOf_eq callNil) (.inl rfl) (by simp only [List.toList_toArray]; rfl) (by simp only [dsts]; rfl) ?_; (repeat (refine q_op (by simp only [wantG, dsts, List.getElem?_cons_zero, List.getElem?_cons_succ, Tr.get_set, Tr.get_leaf, Nat.reduceEqDiff, ↓reduceIte, il]; rfl) ?_; first | (refine q_t ⟨_, _, by simp only [qop_move, qop_assign, qop_pick, qop_build, qop_nilCheck, qop_binOp, qop_unOp, qop_convert, qop_makeInterface, qop_slice, qop_fieldAddr, qop_field, qop_indexAddr, qop_index, qop_extract, qop_len, qop_min, qop_max, qop_call, qop_makeFunc, qop_load, qop_typeAssert, aevO_bool, aevO_int, aevO_tmp, aevO_func, aevO_snil, Tr.get_set, Tr.get_leaf, tmpsOf, evs, evo, evps, und34, und40, und3, und2, abin, aint, notGuarded, isConstO, Bool.or_true, Bool.true_or, Bool.or_false, Nat.reduceEqDiff, ↓reduceIte, Nat.reduceAdd, Nat.zero_add, List.length_map, reduceCtorEq, alen_vl und34, alen_vl und40, alen_nil und34, Array.toList, List.append_nil, List.nil_append, List.cons_append, il]; rfl, rfl, by decide, ?_⟩) | (refine q_f ⟨_, rfl, by decide, ?_⟩))); refine q_nil ?_; dsimp only
    rw [W_seq, W_seq]
    refine W_q (callOf_eq callNil) (.inl rfl) (by simp only [List.toList_toArray]; rfl) (by simp only [dsts]; rfl) ?_; (repeat (refine q_op (by simp only [wantG, dsts, List.getElem?_cons_zero, List.getElem?_cons_succ, Tr.get_set, Tr.get_leaf, Nat.reduceEqDiff, ↓reduceIte, il]; rfl) ?_; first | (refine q_t ⟨_, _, by simp only [qop_move, qop_assign, qop_pick, qop_build, qop_nilCheck, qop_binOp, qop_unOp, qop_convert, qop_makeInterface, qop_slice, qop_fieldAddr, qop_field, qop_indexAddr, qop_index, qop_extract, qop_len, qop_min, qop_max, qop_call, qop_makeFunc, qop_load, qop_typeAssert, aevO_bool, aevO_int, aevO_tmp, aevO_func, aevO_snil, Tr.get_set, Tr.get_leaf, tmpsOf, evs, evo, evps, und34, und40, und3, und2, abin, aint, notGuarded, isConstO, Bool.or_true, Bool.true_or, Bool.or_false, Nat.reduceEqDiff, ↓reduceIte, Nat.reduceAdd, Nat.zero_add, List.length_map, reduceCtorEq, alen_vl und34, alen_vl und40, alen_nil und34, Array.toList, List.append_nil, List.nil_append, List.cons_append, il]; rfl, rfl, by decide, ?_⟩) | (refine q_f ⟨_, rfl, by decide, ?_⟩))); refine q_nil ?_; dsimp only
    refine W_condB _ _ _ _ _ _ _ (p := ((xs.length : Int) != (ys.length : Int))) (by simp only [aevO_tmp, Tr.get_set, Nat.reduceEqDiff, ↓reduceIte]) (fun hne => ?_) (fun heq => ?_)
    · rw [W_seq]
      refine W_q (callOf_eq callNil) (.inl rfl) (by simp only [List.toList_toArray]; rfl) (by simp only [dsts]; rfl) ?_; (repeat (refine q_op (by simp only [wantG, dsts, List.getElem?_cons_zero, List.getElem?_cons_succ, Tr.get_set, Tr.get_leaf, Nat.reduceEqDiff, ↓reduceIte, il]; rfl) ?_; first | (refine q_t ⟨_, _, by simp only [qop_move, qop_assign, qop_pick, qop_build, qop_nilCheck, qop_binOp, qop_unOp, qop_convert, qop_makeInterface, qop_slice, qop_fieldAddr, qop_field, qop_indexAddr, qop_index, qop_extract, qop_len, qop_min, qop_max, qop_call, qop_makeFunc, qop_load, qop_typeAssert, aevO_bool, aevO_int, aevO_tmp, aevO_func, aevO_snil, Tr.get_set, Tr.get_leaf, tmpsOf, evs, evo, evps, und34, und40, und3, und2, abin, aint, notGuarded, isConstO, Bool.or_true, Bool.true_or, Bool.or_false, Nat.reduceEqDiff, ↓reduceIte, Nat.reduceAdd, Nat.zero_add, List.length_map, reduceCtorEq, alen_vl und34, alen_vl und40, alen_nil und34, Array.toList, List.append_nil, List.nil_append, List.cons_append, il]; rfl, rfl, by decide, ?_⟩) | (refine q_f ⟨_, rfl, by decide, ?_⟩))); refine q_nil ?_; dsimp only
      rw [W_code_ret]
      refine ⟨.inr rfl, rfl, ?_⟩
      simp only [aevO_tmp, Tr.get_set, Nat.reduceEqDiff, ↓reduceIte, Option.some.injEq, Value.bool.injEq]
      simp at hne
      symm
      rw [decide_eq_false_iff_not]
      rintro rfl
      exact hne rfl
    · have hlen : xs.length = ys.length := by simp at heq; omega
      rw [W_code_skip]
      dsimp only
      rw [W_seq, W_seq]
      refine W_q (callOf_eq callNil) (.inl rfl) (by simp only [List.toList_toArray]; rfl) (by simp only [dsts]; rfl) ?_; (repeat (refine q_op (by simp only [wantG, dsts, List.getElem?_cons_zero, List.getElem?_cons_succ, Tr.get_set, Tr.get_leaf, Nat.reduceEqDiff, ↓reduceIte, il]; rfl) ?_; first | (refine q_t ⟨_, _, by simp only [qop_move, qop_assign, qop_pick, qop_build, qop_nilCheck, qop_binOp, qop_unOp, qop_convert, qop_makeInterface, qop_slice, qop_fieldAddr, qop_field, qop_indexAddr, qop_index, qop_extract, qop_len, qop_min, qop_max, qop_call, qop_makeFunc, qop_load, qop_typeAssert, aevO_bool, aevO_int, aevO_tmp, aevO_func, aevO_snil, Tr.get_set, Tr.get_leaf, tmpsOf, evs, evo, evps, und34, und40, und3, und2, abin, aint, notGuarded, isConstO, Bool.or_true, Bool.true_or, Bool.or_false, Nat.reduceEqDiff, ↓reduceIte, Nat.reduceAdd, Nat.zero_add, List.length_map, reduceCtorEq, alen_vl und34, alen_vl und40, alen_nil und34, Array.toList, List.append_nil, List.nil_append, List.cons_append, il]; rfl, rfl, by decide, ?_⟩) | (refine q_f ⟨_, rfl, by decide, ?_⟩))); refine q_nil ?_; dsimp only
      rw [W_block]
      refine W_loop C _ 26 _ _ _ _ (fun m x s => ∃ i, m = xs.length - i ∧ i ≤ xs.length ∧ xs.take i = ys.take i ∧ s = AS.empty ∧ x.d = [] ∧ x.t.get 0 = some (vl (xs.map iv)) ∧ x.t.get 1 = some (vl (ys.map iv)) ∧ x.t.get 12 = some (.int .i64 xs.length) ∧ x.t.get 13 = some (.int .i64 i))
        ?_ (m := xs.length) ⟨0, rfl, Nat.zero_le _, rfl, rfl, rfl, by simp only [aevO_tmp, Tr.get_set, Nat.reduceEqDiff, ↓reduceIte, tmpsOf, Nat.zero_add, Nat.reduceAdd, il], by simp only [aevO_tmp, Tr.get_set, Nat.reduceEqDiff, ↓reduceIte, tmpsOf, Nat.zero_add, Nat.reduceAdd, il], by simp only [aevO_tmp, Tr.get_set, Nat.reduceEqDiff, ↓reduceIte, List.length_map], by simp only [aevO_tmp, Tr.get_set, Nat.reduceEqDiff, ↓reduceIte]; rfl⟩ (by omega)
      rintro m ⟨t, d⟩ s ⟨i, rfl, hi, htk, rfl, hd, g0, g1, g12, g13⟩
      dsimp only at hd g0 g1 g12 g13
      subst hd
      rw [W_seq]
      refine W_q (callOf_eq callNil) (.inl rfl) (by simp only [List.toList_toArray]; rfl) (by simp only [dsts]; rfl) ?_; (repeat (refine q_op (by simp only [wantG, dsts, List.getElem?_cons_zero, List.getElem?_cons_succ, Tr.get_set, Tr.get_leaf, Nat.reduceEqDiff, ↓reduceIte, g12, g13]; rfl) ?_; first | (refine q_t ⟨_, _, by simp only [qop_move, qop_assign, qop_pick, qop_build, qop_nilCheck, qop_binOp, qop_unOp, qop_convert, qop_makeInterface, qop_slice, qop_fieldAddr, qop_field, qop_indexAddr, qop_index, qop_extract, qop_len, qop_min, qop_max, qop_call, qop_makeFunc, qop_load, qop_typeAssert, aevO_bool, aevO_int, aevO_tmp, aevO_func, aevO_snil, Tr.get_set, Tr.get_leaf, tmpsOf, evs, evo, evps, und34, und40, und3, und2, abin, aint, notGuarded, isConstO, Bool.or_true, Bool.true_or, Bool.or_false, Nat.reduceEqDiff, ↓reduceIte, Nat.reduceAdd, Nat.zero_add, List.length_map, reduceCtorEq, alen_vl und34, alen_vl und40, alen_nil und34, Array.toList, List.append_nil, List.nil_append, List.cons_append, g12, g13]; rfl, rfl, by decide, ?_⟩) | (refine q_f ⟨_, rfl, by decide, ?_⟩))); refine q_nil ?_; dsimp only
      rw [W_seq]
      refine W_condB _ _ _ _ _ _ _ (p := decide ((i : Int) < (xs.length : Int))) (by simp only [aevO_tmp, Tr.get_set, Nat.reduceEqDiff, ↓reduceIte]) (fun hlt => ?_) (fun hge => ?_)
      · have hlt : i < xs.length := by simpa using hlt
        have hlt2 : i < ys.length := by omega
        rw [W_code_skip]
        dsimp only
        rw [W_seq, W_block, W_seq]
        refine W_q (callOf_eq callNil) (.inl rfl) (by simp only [List.toList_toArray]; rfl) (by simp only [dsts]; rfl) ?_; (repeat (refine q_op (by simp only [wantG, dsts, List.getElem?_cons_zero, List.getElem?_cons_succ, Tr.get_set, Tr.get_leaf, Nat.reduceEqDiff, ↓reduceIte, g13]; rfl) ?_; first | (refine q_t ⟨_, _, by simp only [qop_move, qop_assign, qop_pick, qop_build, qop_nilCheck, qop_binOp, qop_unOp, qop_convert, qop_makeInterface, qop_slice, qop_fieldAddr, qop_field, qop_indexAddr, qop_index, qop_extract, qop_len, qop_min, qop_max, qop_call, qop_makeFunc, qop_load, qop_typeAssert, aevO_bool, aevO_int, aevO_tmp, aevO_func, aevO_snil, Tr.get_set, Tr.get_leaf, tmpsOf, evs, evo, evps, und34, und40, und3, und2, abin, aint, notGuarded, isConstO, Bool.or_true, Bool.true_or, Bool.or_false, Nat.reduceEqDiff, ↓reduceIte, Nat.reduceAdd, Nat.zero_add, List.length_map, reduceCtorEq, alen_vl und34, alen_vl und40, alen_nil und34, Array.toList, List.append_nil, List.nil_append, List.cons_append, g13]; rfl, rfl, by decide, ?_⟩) | (refine q_f ⟨_, rfl, by decide, ?_⟩))); refine q_nil ?_; dsimp only
        rw [W_seq]
        have e1 := idx_scal und40 scal2 (k := .i64) (il_get xs i hlt) rfl
        have e2 := idx_scal und40 scal2 (k := .i64) (il_get ys i hlt2) rfl
        refine W_q (callOf_eq callNil) (.inr (by kernel_rfl)) (by simp only [List.toList_toArray]; rfl) (by simp only [dsts]; rfl) ?_; (repeat (refine q_op (by simp only [wantG, dsts, List.getElem?_cons_zero, List.getElem?_cons_succ, Tr.get_set, Tr.get_leaf, Nat.reduceEqDiff, ↓reduceIte, g0, g1, g13, e1, e2, afptr, load_scal scal2, iv]; rfl) ?_; first | (refine q_t ⟨_, _, by simp only [qop_move, qop_assign, qop_pick, qop_build, qop_nilCheck, qop_binOp, qop_unOp, qop_convert, qop_makeInterface, qop_slice, qop_fieldAddr, qop_field, qop_indexAddr, qop_index, qop_extract, qop_len, qop_min, qop_max, qop_call, qop_makeFunc, qop_load, qop_typeAssert, aevO_bool, aevO_int, aevO_tmp, aevO_func, aevO_snil, Tr.get_set, Tr.get_leaf, tmpsOf, evs, evo, evps, und34, und40, und3, und2, abin, aint, notGuarded, isConstO, Bool.or_true, Bool.true_or, Bool.or_false, Nat.reduceEqDiff, ↓reduceIte, Nat.reduceAdd, Nat.zero_add, List.length_map, reduceCtorEq, alen_vl und34, alen_vl und40, alen_nil und34, Array.toList, List.append_nil, List.nil_append, List.cons_append, g0, g1, g13, e1, e2, afptr, load_scal scal2, iv]; rfl, rfl, by decide, ?_⟩) | (refine q_f ⟨_, rfl, by decide, ?_⟩))); refine q_nil ?_; dsimp only
        refine W_condB _ _ _ _ _ _ _ (p := (xs.getD i 0 != ys.getD i 0)) (by simp only [aevO_tmp, Tr.get_set, Nat.reduceEqDiff, ↓reduceIte]) (fun hne => ?_) (fun heq2 => ?_)
        · rw [W_seq]
          refine W_q (callOf_eq callNil) (.inl rfl) (by simp only [List.toList_toArray]; rfl) (by simp only [dsts]; rfl) ?_; (repeat (refine q_op (by simp only [wantG, dsts, List.getElem?_cons_zero, List.getElem?_cons_succ, Tr.get_set, Tr.get_leaf, Nat.reduceEqDiff, ↓reduceIte]; rfl) ?_; first | (refine q_t ⟨_, _, by simp only [qop_move, qop_assign, qop_pick, qop_build, qop_nilCheck, qop_binOp, qop_unOp, qop_convert, qop_makeInterface, qop_slice, qop_fieldAddr, qop_field, qop_indexAddr, qop_index, qop_extract, qop_len, qop_min, qop_max, qop_call, qop_makeFunc, qop_load, qop_typeAssert, aevO_bool, aevO_int, aevO_tmp, aevO_func, aevO_snil, Tr.get_set, Tr.get_leaf, tmpsOf, evs, evo, evps, und34, und40, und3, und2, abin, aint, notGuarded, isConstO, Bool.or_true, Bool.true_or, Bool.or_false, Nat.reduceEqDiff, ↓reduceIte, Nat.reduceAdd, Nat.zero_add, List.length_map, reduceCtorEq, alen_vl und34, alen_vl und40, alen_nil und34, Array.toList, List.append_nil, List.nil_append, List.cons_append]; rfl, rfl, by decide, ?_⟩) | (refine q_f ⟨_, rfl, by decide, ?_⟩))); refine q_nil ?_; dsimp only
          rw [W_code_ret]
          refine ⟨.inr rfl, rfl, ?_⟩
          simp only [aevO_tmp, Tr.get_set, Nat.reduceEqDiff, ↓reduceIte, Option.some.injEq, Value.bool.injEq]
          symm
          rw [decide_eq_false_iff_not]
          rintro rfl
          simp at hne
        · rw [W_code_skip]
          dsimp only
          refine W_q (callOf_eq callNil) (.inl rfl) (by simp only [List.toList_toArray]; rfl) (by simp only [dsts]; rfl) ?_; (repeat (refine q_op (by simp only [wantG, dsts, List.getElem?_cons_zero, List.getElem?_cons_succ, Tr.get_set, Tr.get_leaf, Nat.reduceEqDiff, ↓reduceIte, g13]; rfl) ?_; first | (refine q_t ⟨_, _, by simp only [qop_move, qop_assign, qop_pick, qop_build, qop_nilCheck, qop_binOp, qop_unOp, qop_convert, qop_makeInterface, qop_slice, qop_fieldAddr, qop_field, qop_indexAddr, qop_index, qop_extract, qop_len, qop_min, qop_max, qop_call, qop_makeFunc, qop_load, qop_typeAssert, aevO_bool, aevO_int, aevO_tmp, aevO_func, aevO_snil, Tr.get_set, Tr.get_leaf, tmpsOf, evs, evo, evps, und34, und40, und3, und2, abin, aint, notGuarded, isConstO, Bool.or_true, Bool.true_or, Bool.or_false, Nat.reduceEqDiff, ↓reduceIte, Nat.reduceAdd, Nat.zero_add, List.length_map, reduceCtorEq, alen_vl und34, alen_vl und40, alen_nil und34, Array.toList, List.append_nil, List.nil_append, List.cons_append, g13]; rfl, rfl, by decide, ?_⟩) | (refine q_f ⟨_, rfl, by decide, ?_⟩))); refine q_nil ?_; dsimp only
          refine ⟨xs.length - (i + 1), by omega, i + 1, rfl, by omega, ?_, rfl, rfl, ?_, ?_, ?_, ?_⟩
          · have : xs.getD i 0 = ys.getD i 0 := by simpa using heq2
            rw [take_succ_getD xs i hlt, take_succ_getD ys i hlt2, htk, this]
          · simp only [aevO_tmp, Tr.get_set, Nat.reduceEqDiff, ↓reduceIte, g0]
          · simp only [aevO_tmp, Tr.get_set, Nat.reduceEqDiff, ↓reduceIte, g1]
          · simp only [aevO_tmp, Tr.get_set, Nat.reduceEqDiff, ↓reduceIte, g12]
          · simp only [aevO_tmp, Tr.get_set, Nat.reduceEqDiff, ↓reduceIte]; rw [wrap_succ i (by omega)]
      · have : i = xs.length := by simp at hge; omega
        subst this
        rw [W_code_exit]
        show W _ _ _
        rw [W_seq]
        refine W_q (callOf_eq callNil) (.inl rfl) (by simp only [List.toList_toArray]; rfl) (by simp only [dsts]; rfl) ?_; (repeat (refine q_op (by simp only [wantG, dsts, List.getElem?_cons_zero, List.getElem?_cons_succ, Tr.get_set, Tr.get_leaf, Nat.reduceEqDiff, ↓reduceIte]; rfl) ?_; first | (refine q_t ⟨_, _, by simp only [qop_move, qop_assign, qop_pick, qop_build, qop_nilCheck, qop_binOp, qop_unOp, qop_convert, qop_makeInterface, qop_slice, qop_fieldAddr, qop_field, qop_indexAddr, qop_index, qop_extract, qop_len, qop_min, qop_max, qop_call, qop_makeFunc, qop_load, qop_typeAssert, aevO_bool, aevO_int, aevO_tmp, aevO_func, aevO_snil, Tr.get_set, Tr.get_leaf, tmpsOf, evs, evo, evps, und34, und40, und3, und2, abin, aint, notGuarded, isConstO, Bool.or_true, Bool.true_or, Bool.or_false, Nat.reduceEqDiff, ↓reduceIte, Nat.reduceAdd, Nat.zero_add, List.length_map, reduceCtorEq, alen_vl und34, alen_vl und40, alen_nil und34, Array.toList, List.append_nil, List.nil_append, List.cons_append]; rfl, rfl, by decide, ?_⟩) | (refine q_f ⟨_, rfl, by decide, ?_⟩))); refine q_nil ?_; dsimp only
        rw [W_code_ret]
        refine ⟨.inr rfl, rfl, ?_⟩
        simp only [aevO_tmp, Tr.get_set, Nat.reduceEqDiff, ↓reduceIte, Option.some.injEq, Value.bool.injEq]
        symm
        rw [decide_eq_true_iff]
        rw [List.take_length, hlen, List.take_length] at htk
        exact htk

/-! ### slices.EqualFunc of lists of numbers -/
def c47 : FuncId → List Value → Option Value := callK 47 (fun p : List Int × List Int => short p.1) (fun p => [il p.1, il p.2]) (fun p => .bool (decide (p.1 = p.2))) callNil
theorem c47_ok : CallPOk Tryz.prog c47 := callK_ok (fun p hp => equal_pure p.1 p.2 hp) callNil_ok
theorem c47_hit (xs ys : List Int) (h : short xs) : c47 47 [il xs, il ys] = some (.bool (decide (xs = ys))) :=
  callK_hit (x := (xs, ys)) (pre := fun p : List Int × List Int => short p.1) (en := fun p => [il p.1, il p.2]) (F := fun p => .bool (decide (p.1 = p.2))) (by
    rintro ⟨a, b⟩ ⟨c, d⟩ _ _ h
    simp only [List.cons.injEq, and_true] at h
    rw [il_inj _ _ h.1, il_inj _ _ h.2]) h
theorem fn47 : isFn C 47 = true := by kernel_rfl
theorem ill_get (a : List (List Int)) (i : Nat) (h : i < a.length) : (a.map il)[i]? = some (il (a.getD i [])) := by simp [h, il]
theorem take_succ_getL (xs : List (List Int)) (i : Nat) (h : i < xs.length) : xs.take (i + 1) = xs.take i ++ [xs.getD i []] := by
  rw [List.take_succ_eq_append_getElem h]
  simp [h]
def fv (f : Nat) : Value := .func (.func f) #[] #[]
def shorts (a : List (List Int)) : Prop := short a ∧ ∀ x ∈ a, short x
theorem shorts_get {a : List (List Int)} (h : shorts a) (i : Nat) : short (a.getD i []) := by
  by_cases hi : i < a.length
  · have : a.getD i [] = a[i] := by simp [hi]
    rw [this]
    exact h.2 _ (List.getElem_mem hi)
  · have : a.getD i [] = [] := by simp [Nat.not_lt.1 hi]
    rw [this]
    unfold short
    simp
theorem equalFunc_pure (a b : List (List Int)) (hl : shorts a) : PureFn Tryz.prog 46 [ill a, ill b, fv 47] (.returned (.bool (decide (a = b)))) := by
  have hlen0 := hl.1
  unfold short at hlen0
  refine pure_of_code C_ok mixed (callOf_ok c47_ok) (fn := Tryz.f46) (loops := a.length + 2) (r := 6) (by unfold C; exact Tryz.func46) rfl rfl (by rw [Tryz.ntmps46]; simp) ?_ rfl (settle_bool C 46 _) ?_
  · rfl
  · show W (acode C (callOf c47) 32 _ _ _) _ _
    rw [W_seq]
    refine W_q (callOf_eq c47) (.inl rfl) (by simp only [List.toList_toArray]; rfl) (by simp only [dsts]; rfl) ?_; (repeat (refine q_op (by simp only [wantG, dsts, List.getElem?_cons_zero, List.getElem?_cons_succ, Tr.get_set, Tr.get_leaf, Nat.reduceEqDiff, ↓reduceIte, ill]; rfl) ?_; first | (refine q_t ⟨_, _, by simp only [qop_move, qop_assign, qop_pick, qop_build, qop_nilCheck, qop_binOp, qop_unOp, qop_convert, qop_makeInterface, qop_slice, qop_fieldAddr, qop_field, qop_indexAddr, qop_index, qop_extract, qop_len, qop_min, qop_max, qop_call, qop_makeFunc, qop_load, qop_typeAssert, aevO_bool, aevO_int, aevO_tmp, aevO_func, aevO_snil, Tr.get_set, Tr.get_leaf, tmpsOf, evs, evo, evps, und34, und40, und3, und2, abin, aint, notGuarded, isConstO, Bool.or_true, Bool.true_or, Bool.or_false, Nat.reduceEqDiff, ↓reduceIte, Nat.reduceAdd, Nat.zero_add, List.length_map, reduceCtorEq, alen_vl und34, alen_vl und40, alen_nil und34, Array.toList, List.append_nil, List.nil_append, List.cons_append, ill]; rfl, rfl, by decide, ?_⟩) | (refine q_f ⟨_, rfl, by decide, ?_⟩))); refine q_nil ?_; dsimp only
    rw [W_seq, W_seq]
    refine W_q (callOf_eq c47) (.inl rfl) (by simp only [List.toList_toArray]; rfl) (by simp only [dsts]; rfl) ?_; (repeat (refine q_op (by simp only [wantG, dsts, List.getElem?_cons_zero, List.getElem?_cons_succ, Tr.get_set, Tr.get_leaf, Nat.reduceEqDiff, ↓reduceIte, ill]; rfl) ?_; first | (refine q_t ⟨_, _, by simp only [qop_move, qop_assign, qop_pick, qop_build, qop_nilCheck, qop_binOp, qop_unOp, qop_convert, qop_makeInterface, qop_slice, qop_fieldAddr, qop_field, qop_indexAddr, qop_index, qop_extract, qop_len, qop_min, qop_max, qop_call, qop_makeFunc, qop_load, qop_typeAssert, aevO_bool, aevO_int, aevO_tmp, aevO_func, aevO_snil, Tr.get_set, Tr.get_leaf, tmpsOf, evs, evo, evps, und34, und40, und3, und2, abin, aint, notGuarded, isConstO, Bool.or_true, Bool.true_or, Bool.or_false, Nat.reduceEqDiff, ↓reduceIte, Nat.reduceAdd, Nat.zero_add, List.length_map, reduceCtorEq, alen_vl und34, alen_vl und40, alen_nil und34, Array.toList, List.append_nil, List.nil_append, List.cons_append, ill]; rfl, rfl, by decide, ?_⟩) | (refine q_f ⟨_, rfl, by decide, ?_⟩))); refine q_nil ?_; dsimp only
    refine W_condB _ _ _ _ _ _ _ (p := ((a.length : Int) != (b.length : Int))) (by simp only [aevO_tmp, Tr.get_set, Nat.reduceEqDiff, ↓reduceIte]) (fun hne => ?_) (fun heq => ?_)
    · rw [W_seq]
      refine W_q (callOf_eq c47) (.inl rfl) (by simp only [List.toList_toArray]; rfl) (by simp only [dsts]; rfl) ?_; (repeat (refine q_op (by simp only [wantG, dsts, List.getElem?_cons_zero, List.getElem?_cons_succ, Tr.get_set, Tr.get_leaf, Nat.reduceEqDiff, ↓reduceIte, ill]; rfl) ?_; first | (refine q_t ⟨_, _, by simp only [qop_move, qop_assign, qop_pick, qop_build, qop_nilCheck, qop_binOp, qop_unOp, qop_convert, qop_makeInterface, qop_slice, qop_fieldAddr, qop_field, qop_indexAddr, qop_index, qop_extract, qop_len, qop_min, qop_max, qop_call, qop_makeFunc, qop_load, qop_typeAssert, aevO_bool, aevO_int, aevO_tmp, aevO_func, aevO_snil, Tr.get_set, Tr.get_leaf, tmpsOf, evs, evo, evps, und34, und40, und3, und2, abin, aint, notGuarded, isConstO, Bool.or_true, Bool.true_or, Bool.or_false, Nat.reduceEqDiff, ↓reduceIte, Nat.reduceAdd, Nat.zero_add, List.length_map, reduceCtorEq, alen_vl und34, alen_vl und40, alen_nil und34, Array.toList, List.append_nil, List.nil_append, List.cons_append, ill]; rfl, rfl, by decide, ?_⟩) | (refine q_f ⟨_, rfl, by decide, ?_⟩))); refine q_nil ?_; dsimp only
      rw [W_code_ret]
      refine ⟨.inr rfl, rfl, ?_⟩
      simp only [aevO_tmp, Tr.get_set, Nat.reduceEqDiff, ↓reduceIte, Option.some.injEq, Value.bool.injEq]
      simp at hne
      symm
      rw [decide_eq_false_iff_not]
      rintro rfl
      exact hne rfl
    · have hlen : a.length = b.length := by simp at heq; omega
      rw [W_code_skip]
      dsimp only
      rw [W_seq, W_seq]
      refine W_q (callOf_eq c47) (.inl rfl) (by simp only [List.toList_toArray]; rfl) (by simp only [dsts]; rfl) ?_; (repeat (refine q_op (by simp only [wantG, dsts, List.getElem?_cons_zero, List.getElem?_cons_succ, Tr.get_set, Tr.get_leaf, Nat.reduceEqDiff, ↓reduceIte, ill]; rfl) ?_; first | (refine q_t ⟨_, _, by simp only [qop_move, qop_assign, qop_pick, qop_build, qop_nilCheck, qop_binOp, qop_unOp, qop_convert, qop_makeInterface, qop_slice, qop_fieldAddr, qop_field, qop_indexAddr, qop_index, qop_extract, qop_len, qop_min, qop_max, qop_call, qop_makeFunc, qop_load, qop_typeAssert, aevO_bool, aevO_int, aevO_tmp, aevO_func, aevO_snil, Tr.get_set, Tr.get_leaf, tmpsOf, evs, evo, evps, und34, und40, und3, und2, abin, aint, notGuarded, isConstO, Bool.or_true, Bool.true_or, Bool.or_false, Nat.reduceEqDiff, ↓reduceIte, Nat.reduceAdd, Nat.zero_add, List.length_map, reduceCtorEq, alen_vl und34, alen_vl und40, alen_nil und34, Array.toList, List.append_nil, List.nil_append, List.cons_append, ill]; rfl, rfl, by decide, ?_⟩) | (refine q_f ⟨_, rfl, by decide, ?_⟩))); refine q_nil ?_; dsimp only
      rw [W_block]
      refine W_loop C _ 32 _ _ _ _ (fun m x s => ∃ i, m = a.length - i ∧ i ≤ a.length ∧ a.take i = b.take i ∧ s = AS.empty ∧ x.d = [] ∧ x.t.get 15 = some (vl (a.map il)) ∧ x.t.get 1 = some (vl (b.map il)) ∧ x.t.get 2 = some (fv 47) ∧ x.t.get 16 = some (.int .i64 a.length) ∧ x.t.get 17 = some (.int .i64 i))
        ?_ (m := a.length) ⟨0, rfl, Nat.zero_le _, rfl, rfl, rfl, by simp only [aevO_tmp, Tr.get_set, Nat.reduceEqDiff, ↓reduceIte, tmpsOf, Nat.zero_add, Nat.reduceAdd, ill], by simp only [aevO_tmp, Tr.get_set, Nat.reduceEqDiff, ↓reduceIte, tmpsOf, Nat.zero_add, Nat.reduceAdd, ill], by simp only [aevO_tmp, Tr.get_set, Nat.reduceEqDiff, ↓reduceIte, tmpsOf, Nat.zero_add, Nat.reduceAdd, ill], by simp only [aevO_tmp, Tr.get_set, Nat.reduceEqDiff, ↓reduceIte, List.length_map], by simp only [aevO_tmp, Tr.get_set, Nat.reduceEqDiff, ↓reduceIte]; rfl⟩ (by omega)
      rintro m ⟨t, d⟩ s ⟨i, rfl, hi, htk, rfl, hd, g15, g1, g2, g16, g17⟩
      dsimp only at hd g15 g1 g2 g16 g17
      subst hd
      rw [W_seq]
      refine W_q (callOf_eq c47) (.inl rfl) (by simp only [List.toList_toArray]; rfl) (by simp only [dsts]; rfl) ?_; (repeat (refine q_op (by simp only [wantG, dsts, List.getElem?_cons_zero, List.getElem?_cons_succ, Tr.get_set, Tr.get_leaf, Nat.reduceEqDiff, ↓reduceIte, g16, g17]; rfl) ?_; first | (refine q_t ⟨_, _, by simp only [qop_move, qop_assign, qop_pick, qop_build, qop_nilCheck, qop_binOp, qop_unOp, qop_convert, qop_makeInterface, qop_slice, qop_fieldAddr, qop_field, qop_indexAddr, qop_index, qop_extract, qop_len, qop_min, qop_max, qop_call, qop_makeFunc, qop_load, qop_typeAssert, aevO_bool, aevO_int, aevO_tmp, aevO_func, aevO_snil, Tr.get_set, Tr.get_leaf, tmpsOf, evs, evo, evps, und34, und40, und3, und2, abin, aint, notGuarded, isConstO, Bool.or_true, Bool.true_or, Bool.or_false, Nat.reduceEqDiff, ↓reduceIte, Nat.reduceAdd, Nat.zero_add, List.length_map, reduceCtorEq, alen_vl und34, alen_vl und40, alen_nil und34, Array.toList, List.append_nil, List.nil_append, List.cons_append, g16, g17]; rfl, rfl, by decide, ?_⟩) | (refine q_f ⟨_, rfl, by decide, ?_⟩))); refine q_nil ?_; dsimp only
      rw [W_seq]
      refine W_condB _ _ _ _ _ _ _ (p := decide ((i : Int) < (a.length : Int))) (by simp only [aevO_tmp, Tr.get_set, Nat.reduceEqDiff, ↓reduceIte]) (fun hlt => ?_) (fun hge => ?_)
      · have hlt : i < a.length := by simpa using hlt
        have hlt2 : i < b.length := by omega
        rw [W_code_skip]
        dsimp only
        rw [W_seq, W_block, W_seq]
        have e1 := idx_scal und34 scal40 (k := .i64) (ill_get a i hlt) rfl
        have e2 := idx_scal und34 scal40 (k := .i64) (ill_get b i hlt2) rfl
        refine W_q (callOf_eq c47) (.inl rfl) (by simp only [List.toList_toArray]; rfl) (by simp only [dsts]; rfl) ?_; (repeat (refine q_op (by simp only [wantG, dsts, List.getElem?_cons_zero, List.getElem?_cons_succ, Tr.get_set, Tr.get_leaf, Nat.reduceEqDiff, ↓reduceIte, g15, g17, e1, afptr, load_scal scal40]; rfl) ?_; first | (refine q_t ⟨_, _, by simp only [qop_move, qop_assign, qop_pick, qop_build, qop_nilCheck, qop_binOp, qop_unOp, qop_convert, qop_makeInterface, qop_slice, qop_fieldAddr, qop_field, qop_indexAddr, qop_index, qop_extract, qop_len, qop_min, qop_max, qop_call, qop_makeFunc, qop_load, qop_typeAssert, aevO_bool, aevO_int, aevO_tmp, aevO_func, aevO_snil, Tr.get_set, Tr.get_leaf, tmpsOf, evs, evo, evps, und34, und40, und3, und2, abin, aint, notGuarded, isConstO, Bool.or_true, Bool.true_or, Bool.or_false, Nat.reduceEqDiff, ↓reduceIte, Nat.reduceAdd, Nat.zero_add, List.length_map, reduceCtorEq, alen_vl und34, alen_vl und40, alen_nil und34, Array.toList, List.append_nil, List.nil_append, List.cons_append, g15, g17, e1, afptr, load_scal scal40]; rfl, rfl, by decide, ?_⟩) | (refine q_f ⟨_, rfl, by decide, ?_⟩))); refine q_nil ?_; dsimp only
        rw [W_seq]
        refine W_q (callOf_eq c47) (.inl rfl) (by simp only [List.toList_toArray]; rfl) (by simp only [dsts]; rfl) ?_; (repeat (refine q_op (by simp only [wantG, dsts, List.getElem?_cons_zero, List.getElem?_cons_succ, Tr.get_set, Tr.get_leaf, Nat.reduceEqDiff, ↓reduceIte, g15, g17, g1, e2, afptr, load_scal scal40]; rfl) ?_; first | (refine q_t ⟨_, _, by simp only [qop_move, qop_assign, qop_pick, qop_build, qop_nilCheck, qop_binOp, qop_unOp, qop_convert, qop_makeInterface, qop_slice, qop_fieldAddr, qop_field, qop_indexAddr, qop_index, qop_extract, qop_len, qop_min, qop_max, qop_call, qop_makeFunc, qop_load, qop_typeAssert, aevO_bool, aevO_int, aevO_tmp, aevO_func, aevO_snil, Tr.get_set, Tr.get_leaf, tmpsOf, evs, evo, evps, und34, und40, und3, und2, abin, aint, notGuarded, isConstO, Bool.or_true, Bool.true_or, Bool.or_false, Nat.reduceEqDiff, ↓reduceIte, Nat.reduceAdd, Nat.zero_add, List.length_map, reduceCtorEq, alen_vl und34, alen_vl und40, alen_nil und34, Array.toList, List.append_nil, List.nil_append, List.cons_append, g15, g17, g1, e2, afptr, load_scal scal40]; rfl, rfl, by decide, ?_⟩) | (refine q_f ⟨_, rfl, by decide, ?_⟩))); refine q_nil ?_; dsimp only
        rw [W_seq]
        refine W_q (callOf_eq c47) (.inl rfl) (by simp only [List.toList_toArray]; rfl) (by simp only [dsts]; rfl) ?_; (repeat (refine q_op (by simp only [wantG, dsts, List.getElem?_cons_zero, List.getElem?_cons_succ, Tr.get_set, Tr.get_leaf, Nat.reduceEqDiff, ↓reduceIte, g2, fv, fn47, c47_hit _ _ (shorts_get hl i), aun]; rfl) ?_; first | (refine q_t ⟨_, _, by simp only [qop_move, qop_assign, qop_pick, qop_build, qop_nilCheck, qop_binOp, qop_unOp, qop_convert, qop_makeInterface, qop_slice, qop_fieldAddr, qop_field, qop_indexAddr, qop_index, qop_extract, qop_len, qop_min, qop_max, qop_call, qop_makeFunc, qop_load, qop_typeAssert, aevO_bool, aevO_int, aevO_tmp, aevO_func, aevO_snil, Tr.get_set, Tr.get_leaf, tmpsOf, evs, evo, evps, und34, und40, und3, und2, abin, aint, notGuarded, isConstO, Bool.or_true, Bool.true_or, Bool.or_false, Nat.reduceEqDiff, ↓reduceIte, Nat.reduceAdd, Nat.zero_add, List.length_map, reduceCtorEq, alen_vl und34, alen_vl und40, alen_nil und34, Array.toList, List.append_nil, List.nil_append, List.cons_append, g2, fv, fn47, c47_hit _ _ (shorts_get hl i), aun]; rfl, rfl, by decide, ?_⟩) | (refine q_f ⟨_, rfl, by decide, ?_⟩))); refine q_nil ?_; dsimp only
        refine W_condB _ _ _ _ _ _ _ (p := !(decide (a.getD i [] = b.getD i []))) (by simp only [aevO_tmp, Tr.get_set, Nat.reduceEqDiff, ↓reduceIte]) (fun hne => ?_) (fun heq2 => ?_)
        · rw [W_seq]
          refine W_q (callOf_eq c47) (.inl rfl) (by simp only [List.toList_toArray]; rfl) (by simp only [dsts]; rfl) ?_; (repeat (refine q_op (by simp only [wantG, dsts, List.getElem?_cons_zero, List.getElem?_cons_succ, Tr.get_set, Tr.get_leaf, Nat.reduceEqDiff, ↓reduceIte]; rfl) ?_; first | (refine q_t ⟨_, _, by simp only [qop_move, qop_assign, qop_pick, qop_build, qop_nilCheck, qop_binOp, qop_unOp, qop_convert, qop_makeInterface, qop_slice, qop_fieldAddr, qop_field, qop_indexAddr, qop_index, qop_extract, qop_len, qop_min, qop_max, qop_call, qop_makeFunc, qop_load, qop_typeAssert, aevO_bool, aevO_int, aevO_tmp, aevO_func, aevO_snil, Tr.get_set, Tr.get_leaf, tmpsOf, evs, evo, evps, und34, und40, und3, und2, abin, aint, notGuarded, isConstO, Bool.or_true, Bool.true_or, Bool.or_false, Nat.reduceEqDiff, ↓reduceIte, Nat.reduceAdd, Nat.zero_add, List.length_map, reduceCtorEq, alen_vl und34, alen_vl und40, alen_nil und34, Array.toList, List.append_nil, List.nil_append, List.cons_append]; rfl, rfl, by decide, ?_⟩) | (refine q_f ⟨_, rfl, by decide, ?_⟩))); refine q_nil ?_; dsimp only
          rw [W_code_ret]
          refine ⟨.inr rfl, rfl, ?_⟩
          simp only [aevO_tmp, Tr.get_set, Nat.reduceEqDiff, ↓reduceIte, Option.some.injEq, Value.bool.injEq]
          symm
          rw [decide_eq_false_iff_not]
          rintro rfl
          simp at hne
        · rw [W_code_skip]
          dsimp only
          refine W_q (callOf_eq c47) (.inl rfl) (by simp only [List.toList_toArray]; rfl) (by simp only [dsts]; rfl) ?_; (repeat (refine q_op (by simp only [wantG, dsts, List.getElem?_cons_zero, List.getElem?_cons_succ, Tr.get_set, Tr.get_leaf, Nat.reduceEqDiff, ↓reduceIte, g17]; rfl) ?_; first | (refine q_t ⟨_, _, by simp only [qop_move, qop_assign, qop_pick, qop_build, qop_nilCheck, qop_binOp, qop_unOp, qop_convert, qop_makeInterface, qop_slice, qop_fieldAddr, qop_field, qop_indexAddr, qop_index, qop_extract, qop_len, qop_min, qop_max, qop_call, qop_makeFunc, qop_load, qop_typeAssert, aevO_bool, aevO_int, aevO_tmp, aevO_func, aevO_snil, Tr.get_set, Tr.get_leaf, tmpsOf, evs, evo, evps, und34, und40, und3, und2, abin, aint, notGuarded, isConstO, Bool.or_true, Bool.true_or, Bool.or_false, Nat.reduceEqDiff, ↓reduceIte, Nat.reduceAdd, Nat.zero_add, List.length_map, reduceCtorEq, alen_vl und34, alen_vl und40, alen_nil und34, Array.toList, List.append_nil, List.nil_append, List.cons_append, g17]; rfl, rfl, by decide, ?_⟩) | (refine q_f ⟨_, rfl, by decide, ?_⟩))); refine q_nil ?_; dsimp only
          refine ⟨a.length - (i + 1), by omega, i + 1, rfl, by omega, ?_, rfl, rfl, ?_, ?_, ?_, ?_, ?_⟩
          · have : a.getD i [] = b.getD i [] := by simpa using heq2
            rw [take_succ_getL a i hlt, take_succ_getL b i hlt2, htk, this]
          · simp only [aevO_tmp, Tr.get_set, Nat.reduceEqDiff, ↓reduceIte, g15]
          · simp only [aevO_tmp, Tr.get_set, Nat.reduceEqDiff, ↓reduceIte, g1]
          · simp only [aevO_tmp, Tr.get_set, Nat.reduceEqDiff, ↓reduceIte, g2]
          · simp only [aevO_tmp, Tr.get_set, Nat.reduceEqDiff, ↓reduceIte, g16]
          · simp only [aevO_tmp, Tr.get_set, Nat.reduceEqDiff, ↓reduceIte]; rw [wrap_succ i (by omega)]
      · have : i = a.length := by simp at hge; omega
        subst this
        rw [W_code_exit]
        show W _ _ _
        rw [W_seq]
        refine W_q (callOf_eq c47) (.inl rfl) (by simp only [List.toList_toArray]; rfl) (by simp only [dsts]; rfl) ?_; (repeat (refine q_op (by simp only [wantG, dsts, List.getElem?_cons_zero, List.getElem?_cons_succ, Tr.get_set, Tr.get_leaf, Nat.reduceEqDiff, ↓reduceIte]; rfl) ?_; first | (refine q_t ⟨_, _, by simp only [qop_move, qop_assign, qop_pick, qop_build, qop_nilCheck, qop_binOp, qop_unOp, qop_convert, qop_makeInterface, qop_slice, qop_fieldAddr, qop_field, qop_indexAddr, qop_index, qop_extract, qop_len, qop_min, qop_max, qop_call, qop_makeFunc, qop_load, qop_typeAssert, aevO_bool, aevO_int, aevO_tmp, aevO_func, aevO_snil, Tr.get_set, Tr.get_leaf, tmpsOf, evs, evo, evps, und34, und40, und3, und2, abin, aint, notGuarded, isConstO, Bool.or_true, Bool.true_or, Bool.or_false, Nat.reduceEqDiff, ↓reduceIte, Nat.reduceAdd, Nat.zero_add, List.length_map, reduceCtorEq, alen_vl und34, alen_vl und40, alen_nil und34, Array.toList, List.append_nil, List.nil_append, List.cons_append]; rfl, rfl, by decide, ?_⟩) | (refine q_f ⟨_, rfl, by decide, ?_⟩))); refine q_nil ?_; dsimp only
        rw [W_code_ret]
        refine ⟨.inr rfl, rfl, ?_⟩
        simp only [aevO_tmp, Tr.get_set, Nat.reduceEqDiff, ↓reduceIte, Option.some.injEq, Value.bool.injEq]
        symm
        rw [decide_eq_true_iff]
        rw [List.take_length, hlen, List.take_length] at htk
        exact htk

/-! ### run.Begins -/
theorem pure_weaken {P : Program} {f : FuncId} {args args2 : List Value} {e : AEnd} (h : PureFn P f args e) (k : ∀ ρ (args' : Array Value), VRels ρ args2 args'.toList → VRels ρ args args'.toList) : PureFn P f args2 e :=
  fun Pm ρ s w args' ha => h Pm ρ s w args' (k ρ args' ha)
theorem nil_vl {ρ : Rho} {v : Value} (h : VRel ρ (.slice none 0 0) v) : VRel ρ (vl []) v := by
  cases h
  exact .listz (fun _ => rfl) (fun _ => rfl) (fun h => absurd h (by decide))
def c46 : FuncId → List Value → Option Value := callK 46 (fun p : List (List Int) × List (List Int) => shorts p.1) (fun p => [ill p.1, ill p.2, fv 47]) (fun p => .bool (decide (p.1 = p.2))) callNil
theorem c46_ok : CallPOk Tryz.prog c46 := callK_ok (fun p hp => equalFunc_pure p.1 p.2 hp) callNil_ok
theorem c46_hit (xs ys : List (List Int)) (h : shorts xs) : c46 46 [ill xs, ill ys, fv 47] = some (.bool (decide (xs = ys))) :=
  callK_hit (x := (xs, ys)) (pre := fun p : List (List Int) × List (List Int) => shorts p.1) (en := fun p => [ill p.1, ill p.2, fv 47]) (F := fun p => .bool (decide (p.1 = p.2))) (by
    rintro ⟨a, b⟩ ⟨c, d⟩ _ _ h
    simp only [List.cons.injEq, and_true] at h
    rw [ill_inj _ _ h.1, ill_inj _ _ h.2]) h
theorem fn46 : isFn C 46 = true := by kernel_rfl
theorem inf40 : ∃ i, C.inf 40 = some i ∧ i.size = 1 := scal40.inf
theorem slice34 (b : List (List Int)) (n : Nat) (h : n ≤ b.length) : aslice C 34 (ill b) none (some (.int .i64 n)) none = some (ill (b.take n)) := by
  obtain ⟨i, h1, h2⟩ := inf40
  unfold ill
  rw [slice_to und34 h1 (by rw [h2]; intro v hv; obtain ⟨x, _, rfl⟩ := List.mem_map.1 hv; rfl) (by simpa using h), List.map_take]
def beg (a b : List (List Int)) : Bool := decide (a.length ≤ b.length) && decide (a = b.take a.length)
theorem begins_pure (a b : List (List Int)) (hl : shorts a) : PureFn Tryz.prog 25 [ill a, ill b] (.returned (.bool (beg a b))) := by
  refine pure_of_code C_ok mixed (callOf_ok c46_ok) (fn := Tryz.f25) (loops := 2) (r := 4) (by unfold C; exact Tryz.func25) rfl rfl (by rw [Tryz.ntmps25]; simp) ?_ rfl (settle_bool C 25 _) ?_
  · rfl
  · show W (acode C (callOf c46) 18 _ _ _) _ _
    rw [W_seq]
    refine W_q (callOf_eq c46) (.inl rfl) (by simp only [List.toList_toArray]; rfl) (by simp only [dsts]; rfl) ?_; (repeat (refine q_op (by simp only [wantG, dsts, List.getElem?_cons_zero, List.getElem?_cons_succ, Tr.get_set, Tr.get_leaf, Nat.reduceEqDiff, ↓reduceIte]; rfl) ?_; first | (refine q_t ⟨_, _, by simp only [qop_move, qop_assign, qop_pick, qop_build, qop_nilCheck, qop_binOp, qop_unOp, qop_convert, qop_makeInterface, qop_slice, qop_fieldAddr, qop_field, qop_indexAddr, qop_index, qop_extract, qop_len, qop_min, qop_max, qop_call, qop_makeFunc, qop_load, qop_typeAssert, aevO_bool, aevO_int, aevO_tmp, aevO_func, aevO_snil, Tr.get_set, Tr.get_leaf, tmpsOf, evs, evo, evps, und34, und40, und3, und2, abin, aint, notGuarded, isConstO, Bool.or_true, Bool.true_or, Bool.or_false, Nat.reduceEqDiff, ↓reduceIte, Nat.reduceAdd, Nat.zero_add, List.length_map, reduceCtorEq, alen_vl und34, alen_vl und40, alen_nil und34, Array.toList, List.append_nil, List.nil_append, List.cons_append]; rfl, rfl, by decide, ?_⟩) | (refine q_f ⟨_, rfl, by decide, ?_⟩))); refine q_nil ?_; dsimp only
    rw [W_seq]
    have l1 := alen_vl und34 (a.map il)
    have l2 := alen_vl und34 (b.map il)
    rw [List.length_map] at l1 l2
    by_cases h : a.length ≤ b.length
    · have hd : decide ((a.length : Int) ≤ (b.length : Int)) = true := by simpa using h
      have e1 := slice34 b a.length h
      have e2 := c46_hit a (b.take a.length) hl
      unfold fv at e2
      have l1' : alen C 34 (ill a) = _ := l1
      have l2' : alen C 34 (ill b) = _ := l2
      refine W_q (callOf_eq c46) (.inl rfl) (by simp only [List.toList_toArray]; rfl) (by simp only [dsts]; rfl) ?_; (repeat (refine q_op (by simp only [wantG, dsts, List.getElem?_cons_zero, List.getElem?_cons_succ, Tr.get_set, Tr.get_leaf, Nat.reduceEqDiff, ↓reduceIte, hd, e1, e2, fn46, l1', l2']; rfl) ?_; first | (refine q_t ⟨_, _, by simp only [qop_move, qop_assign, qop_pick, qop_build, qop_nilCheck, qop_binOp, qop_unOp, qop_convert, qop_makeInterface, qop_slice, qop_fieldAddr, qop_field, qop_indexAddr, qop_index, qop_extract, qop_len, qop_min, qop_max, qop_call, qop_makeFunc, qop_load, qop_typeAssert, aevO_bool, aevO_int, aevO_tmp, aevO_func, aevO_snil, Tr.get_set, Tr.get_leaf, tmpsOf, evs, evo, evps, und34, und40, und3, und2, abin, aint, notGuarded, isConstO, Bool.or_true, Bool.true_or, Bool.or_false, Nat.reduceEqDiff, ↓reduceIte, Nat.reduceAdd, Nat.zero_add, List.length_map, reduceCtorEq, alen_vl und34, alen_vl und40, alen_nil und34, Array.toList, List.append_nil, List.nil_append, List.cons_append, hd, e1, e2, fn46, l1', l2']; rfl, rfl, by decide, ?_⟩) | (refine q_f ⟨_, rfl, by decide, ?_⟩))); refine q_nil ?_; dsimp only
      rw [W_code_ret]
      refine ⟨.inr rfl, rfl, ?_⟩
      simp only [aevO_tmp, Tr.get_set, Nat.reduceEqDiff, ↓reduceIte, Option.some.injEq, Value.bool.injEq]
      simp [beg, h]
    · have hd : decide ((a.length : Int) ≤ (b.length : Int)) = false := by simpa using h
      have l1' : alen C 34 (ill a) = _ := l1
      have l2' : alen C 34 (ill b) = _ := l2
      refine W_q (callOf_eq c46) (.inl rfl) (by simp only [List.toList_toArray]; rfl) (by simp only [dsts]; rfl) ?_; (repeat (refine q_op (by simp only [wantG, dsts, List.getElem?_cons_zero, List.getElem?_cons_succ, Tr.get_set, Tr.get_leaf, Nat.reduceEqDiff, ↓reduceIte, hd, l1', l2', fn46]; rfl) ?_; first | (refine q_t ⟨_, _, by simp only [qop_move, qop_assign, qop_pick, qop_build, qop_nilCheck, qop_binOp, qop_unOp, qop_convert, qop_makeInterface, qop_slice, qop_fieldAddr, qop_field, qop_indexAddr, qop_index, qop_extract, qop_len, qop_min, qop_max, qop_call, qop_makeFunc, qop_load, qop_typeAssert, aevO_bool, aevO_int, aevO_tmp, aevO_func, aevO_snil, Tr.get_set, Tr.get_leaf, tmpsOf, evs, evo, evps, und34, und40, und3, und2, abin, aint, notGuarded, isConstO, Bool.or_true, Bool.true_or, Bool.or_false, Nat.reduceEqDiff, ↓reduceIte, Nat.reduceAdd, Nat.zero_add, List.length_map, reduceCtorEq, alen_vl und34, alen_vl und40, alen_nil und34, Array.toList, List.append_nil, List.nil_append, List.cons_append, hd, l1', l2', fn46]; rfl, rfl, by decide, ?_⟩) | (refine q_f ⟨_, rfl, by decide, ?_⟩))); refine q_nil ?_; dsimp only
      rw [W_code_ret]
      refine ⟨.inr rfl, rfl, ?_⟩
      simp only [aevO_tmp, Tr.get_set, Nat.reduceEqDiff, ↓reduceIte, Option.some.injEq, Value.bool.injEq]
      simp [beg, h]
theorem begins_nil (b : List (List Int)) : PureFn Tryz.prog 25 [.slice none 0 0, ill b] (.returned (.bool true)) := by
  have h := begins_pure [] b ⟨by simp [short], by simp⟩
  refine (show beg [] b = true by simp [beg]) ▸ pure_weaken h ?_
  rintro ρ ⟨l⟩ ha
  cases ha with
  | cons h1 h2 => exact .cons (nil_vl h1) h2
/-! ### run.Same -/
theorem und36 : C.und 36 = Tryz.prog.underlying 36 := rfl
theorem fa36_0 (i : Nat) : afieldAddr C 36 (.pointer (some ⟨i, 0, none⟩)) 0 = some (.pointer (some ⟨i, 0, none⟩)) := by kernel_rfl
theorem fa36_1 (i : Nat) : afieldAddr C 36 (.pointer (some ⟨i, 0, none⟩)) 1 = some (.pointer (some ⟨i, 1, none⟩)) := by kernel_rfl
theorem fa36_2 (i : Nat) : afieldAddr C 36 (.pointer (some ⟨i, 0, none⟩)) 2 = some (.pointer (some ⟨i, 2, none⟩)) := by kernel_rfl
theorem fa36_3 (i : Nat) : afieldAddr C 36 (.pointer (some ⟨i, 0, none⟩)) 3 = some (.pointer (some ⟨i, 3, none⟩)) := by kernel_rfl
theorem und33 : C.und 33 = some (.int .i64) := by unfold C; exact Tryz.underlying33
theorem ldf {t : TypeId} {d : TypeDesc} (hd : C.und t = some d) (hag : isAggD d = false) {i o : Nat} {e : TypeId} {cs : List Value} {s : AS} {v : Value} (hg : s.h.get i = some (.row e cs)) (hv : cs[o]? = some v) (ht : s.thr = 0) : (aloadVar C t ⟨i, o, none⟩).run s = some (v, s) := by
  rw [run_loadVar hd hag rfl hg hv]
  unfold AS.touchR
  rw [ht]
  rfl
def res (t st w : Int) (a : List (List Int)) : Value := .agg #[.int .i64 t, .int .i64 st, .int .i64 w, ill a]
theorem same_pure (t1 s1 w1 t2 s2 w2 : Int) (a b : List (List Int)) (hl : shorts a) : PureFn Tryz.prog 23 [res t1 s1 w1 a, res t2 s2 w2 b] (.returned (.bool (decide (t1 = t2) && decide (s1 = s2) && decide (w1 = w2) && decide (a = b)))) := by
  refine pure_of_code C_ok mixed (callOf_ok c46_ok) (fn := Tryz.f23) (loops := 2) (r := 4) (by unfold C; exact Tryz.func23) rfl rfl (by rw [Tryz.ntmps23]; simp) ?_ rfl (settle_bool C 23 _) ?_
  · rfl
  · show W (acode C (callOf c46) 31 _ _ _) _ _
    rw [W_seq]
    refine W_s (callOf_eq c46) (by simp only [List.toList_toArray]; rfl) (by simp only [dsts]; rfl) ?_; (repeat (refine s_op (by simp only [wantG, dsts, List.getElem?_cons_zero, List.getElem?_cons_succ, Tr.get_set, Tr.get_leaf, Nat.reduceEqDiff, ↓reduceIte, AS.empty, res, Value.cells]; rfl) ?_; first | (refine s_t rfl ⟨_, _, by simp only [sop_move, sop_assign, sop_pick, sop_build, sop_nilCheck, sop_binOp, sop_unOp, sop_convert, sop_makeInterface, sop_makeFunc, sop_slice, sop_fieldAddr, sop_field, sop_indexAddr, sop_index, sop_extract, sop_typeAssert, sop_len, sop_min, sop_max, sop_call, sop_alloc, sop_box, sop_buildSlice, sop_load, sop_store, sop_makeSlice, sop_append, sop_copy, qop_move, qop_assign, qop_pick, qop_build, qop_nilCheck, qop_binOp, qop_unOp, qop_convert, qop_makeInterface, qop_slice, qop_fieldAddr, qop_field, qop_indexAddr, qop_index, qop_extract, qop_len, qop_min, qop_max, qop_call, qop_makeFunc, qop_load, qop_typeAssert, aevO_bool, aevO_int, aevO_tmp, aevO_func, aevO_snil, Tr.get_set, Tr.get_leaf, tmpsOf, evs, evo, evps, und34, und40, und3, und2, abin, aint, notGuarded, isConstO, Bool.or_true, Bool.true_or, Bool.or_false, Nat.reduceEqDiff, ↓reduceIte, Nat.reduceAdd, Nat.zero_add, List.length_map, reduceCtorEq, alen_vl und34, alen_vl und40, alen_nil und34, Array.toList, List.append_nil, List.nil_append, List.cons_append, run_newVar, AS.push, Nat.succ_eq_add_one, AS.empty, res, Value.cells]; rfl, by decide, ?_⟩) | (refine s_f ⟨_, rfl, by decide, ?_⟩) | (refine s_n rfl ⟨_, _, by simp only [sop_move, sop_assign, sop_pick, sop_build, sop_nilCheck, sop_binOp, sop_unOp, sop_convert, sop_makeInterface, sop_makeFunc, sop_slice, sop_fieldAddr, sop_field, sop_indexAddr, sop_index, sop_extract, sop_typeAssert, sop_len, sop_min, sop_max, sop_call, sop_alloc, sop_box, sop_buildSlice, sop_load, sop_store, sop_makeSlice, sop_append, sop_copy, qop_move, qop_assign, qop_pick, qop_build, qop_nilCheck, qop_binOp, qop_unOp, qop_convert, qop_makeInterface, qop_slice, qop_fieldAddr, qop_field, qop_indexAddr, qop_index, qop_extract, qop_len, qop_min, qop_max, qop_call, qop_makeFunc, qop_load, qop_typeAssert, aevO_bool, aevO_int, aevO_tmp, aevO_func, aevO_snil, Tr.get_set, Tr.get_leaf, tmpsOf, evs, evo, evps, und34, und40, und3, und2, abin, aint, notGuarded, isConstO, Bool.or_true, Bool.true_or, Bool.or_false, Nat.reduceEqDiff, ↓reduceIte, Nat.reduceAdd, Nat.zero_add, List.length_map, reduceCtorEq, alen_vl und34, alen_vl und40, alen_nil und34, Array.toList, List.append_nil, List.nil_append, List.cons_append, run_newVar, AS.push, Nat.succ_eq_add_one, AS.empty, res, Value.cells]; rfl, ?_⟩))); refine s_nil ?_; dsimp only
    rw [W_seq]
    generalize hs0 : ({ h := _, n := 2, thr := _, rd := _, wr := _ } : AS) = s0
    have ht : s0.thr = 0 := by rw [← hs0]
    have g0 : s0.h.get 0 = some (.row 36 [.int .i64 t1, .int .i64 s1, .int .i64 w1, ill a]) := by rw [← hs0]; simp only [Tr.get_set]; rfl
    have g1 : s0.h.get 1 = some (.row 36 [.int .i64 t2, .int .i64 s2, .int .i64 w2, ill b]) := by rw [← hs0]; simp only [Tr.get_set]; rfl
    clear hs0
    have e2 := c46_hit a b hl
    unfold fv at e2
    by_cases h1 : t1 = t2
    · by_cases h2 : s1 = s2
      · by_cases h3 : w1 = w2
        · subst h1 h2 h3
          refine W_s (callOf_eq c46) (by simp only [List.toList_toArray]; rfl) (by simp only [dsts]; rfl) ?_; (repeat (refine s_op (by simp only [wantG, dsts, List.getElem?_cons_zero, List.getElem?_cons_succ, Tr.get_set, Tr.get_leaf, Nat.reduceEqDiff, ↓reduceIte, fa36_0, fa36_1, fa36_2, fa36_3, und33, ldf und33 rfl g0 (o := 0) rfl ht, ldf und33 rfl g1 (o := 0) rfl ht, ldf und3 rfl g0 (o := 1) rfl ht, ldf und3 rfl g1 (o := 1) rfl ht, ldf und3 rfl g0 (o := 2) rfl ht, ldf und3 rfl g1 (o := 2) rfl ht, ldf und34 rfl g0 (o := 3) rfl ht, ldf und34 rfl g1 (o := 3) rfl ht, beq_self_eq_true, e2, fn46]; rfl) ?_; first | (refine s_t rfl ⟨_, _, by simp only [sop_move, sop_assign, sop_pick, sop_build, sop_nilCheck, sop_binOp, sop_unOp, sop_convert, sop_makeInterface, sop_makeFunc, sop_slice, sop_fieldAddr, sop_field, sop_indexAddr, sop_index, sop_extract, sop_typeAssert, sop_len, sop_min, sop_max, sop_call, sop_alloc, sop_box, sop_buildSlice, sop_load, sop_store, sop_makeSlice, sop_append, sop_copy, qop_move, qop_assign, qop_pick, qop_build, qop_nilCheck, qop_binOp, qop_unOp, qop_convert, qop_makeInterface, qop_slice, qop_fieldAddr, qop_field, qop_indexAddr, qop_index, qop_extract, qop_len, qop_min, qop_max, qop_call, qop_makeFunc, qop_load, qop_typeAssert, aevO_bool, aevO_int, aevO_tmp, aevO_func, aevO_snil, Tr.get_set, Tr.get_leaf, tmpsOf, evs, evo, evps, und34, und40, und3, und2, abin, aint, notGuarded, isConstO, Bool.or_true, Bool.true_or, Bool.or_false, Nat.reduceEqDiff, ↓reduceIte, Nat.reduceAdd, Nat.zero_add, List.length_map, reduceCtorEq, alen_vl und34, alen_vl und40, alen_nil und34, Array.toList, List.append_nil, List.nil_append, List.cons_append, run_newVar, AS.push, Nat.succ_eq_add_one, fa36_0, fa36_1, fa36_2, fa36_3, und33, ldf und33 rfl g0 (o := 0) rfl ht, ldf und33 rfl g1 (o := 0) rfl ht, ldf und3 rfl g0 (o := 1) rfl ht, ldf und3 rfl g1 (o := 1) rfl ht, ldf und3 rfl g0 (o := 2) rfl ht, ldf und3 rfl g1 (o := 2) rfl ht, ldf und34 rfl g0 (o := 3) rfl ht, ldf und34 rfl g1 (o := 3) rfl ht, beq_self_eq_true, e2, fn46]; rfl, by decide, ?_⟩) | (refine s_f ⟨_, rfl, by decide, ?_⟩) | (refine s_n rfl ⟨_, _, by simp only [sop_move, sop_assign, sop_pick, sop_build, sop_nilCheck, sop_binOp, sop_unOp, sop_convert, sop_makeInterface, sop_makeFunc, sop_slice, sop_fieldAddr, sop_field, sop_indexAddr, sop_index, sop_extract, sop_typeAssert, sop_len, sop_min, sop_max, sop_call, sop_alloc, sop_box, sop_buildSlice, sop_load, sop_store, sop_makeSlice, sop_append, sop_copy, qop_move, qop_assign, qop_pick, qop_build, qop_nilCheck, qop_binOp, qop_unOp, qop_convert, qop_makeInterface, qop_slice, qop_fieldAddr, qop_field, qop_indexAddr, qop_index, qop_extract, qop_len, qop_min, qop_max, qop_call, qop_makeFunc, qop_load, qop_typeAssert, aevO_bool, aevO_int, aevO_tmp, aevO_func, aevO_snil, Tr.get_set, Tr.get_leaf, tmpsOf, evs, evo, evps, und34, und40, und3, und2, abin, aint, notGuarded, isConstO, Bool.or_true, Bool.true_or, Bool.or_false, Nat.reduceEqDiff, ↓reduceIte, Nat.reduceAdd, Nat.zero_add, List.length_map, reduceCtorEq, alen_vl und34, alen_vl und40, alen_nil und34, Array.toList, List.append_nil, List.nil_append, List.cons_append, run_newVar, AS.push, Nat.succ_eq_add_one, fa36_0, fa36_1, fa36_2, fa36_3, und33, ldf und33 rfl g0 (o := 0) rfl ht, ldf und33 rfl g1 (o := 0) rfl ht, ldf und3 rfl g0 (o := 1) rfl ht, ldf und3 rfl g1 (o := 1) rfl ht, ldf und3 rfl g0 (o := 2) rfl ht, ldf und3 rfl g1 (o := 2) rfl ht, ldf und34 rfl g0 (o := 3) rfl ht, ldf und34 rfl g1 (o := 3) rfl ht, beq_self_eq_true, e2, fn46]; rfl, ?_⟩))); refine s_nil ?_; dsimp only
          rw [W_code_ret]
          refine ⟨.inr rfl, rfl, ?_⟩
          simp only [aevO_tmp, Tr.get_set, Nat.reduceEqDiff, ↓reduceIte, Option.some.injEq, Value.bool.injEq]
          simp
        · subst h1 h2
          have hb : (w1 == w2) = false := by simpa using h3
          refine W_s (callOf_eq c46) (by simp only [List.toList_toArray]; rfl) (by simp only [dsts]; rfl) ?_; (repeat (refine s_op (by simp only [wantG, dsts, List.getElem?_cons_zero, List.getElem?_cons_succ, Tr.get_set, Tr.get_leaf, Nat.reduceEqDiff, ↓reduceIte, fa36_0, fa36_1, fa36_2, fa36_3, und33, ldf und33 rfl g0 (o := 0) rfl ht, ldf und33 rfl g1 (o := 0) rfl ht, ldf und3 rfl g0 (o := 1) rfl ht, ldf und3 rfl g1 (o := 1) rfl ht, ldf und3 rfl g0 (o := 2) rfl ht, ldf und3 rfl g1 (o := 2) rfl ht, ldf und34 rfl g0 (o := 3) rfl ht, ldf und34 rfl g1 (o := 3) rfl ht, beq_self_eq_true, e2, fn46, hb]; rfl) ?_; first | (refine s_t rfl ⟨_, _, by simp only [sop_move, sop_assign, sop_pick, sop_build, sop_nilCheck, sop_binOp, sop_unOp, sop_convert, sop_makeInterface, sop_makeFunc, sop_slice, sop_fieldAddr, sop_field, sop_indexAddr, sop_index, sop_extract, sop_typeAssert, sop_len, sop_min, sop_max, sop_call, sop_alloc, sop_box, sop_buildSlice, sop_load, sop_store, sop_makeSlice, sop_append, sop_copy, qop_move, qop_assign, qop_pick, qop_build, qop_nilCheck, qop_binOp, qop_unOp, qop_convert, qop_makeInterface, qop_slice, qop_fieldAddr, qop_field, qop_indexAddr, qop_index, qop_extract, qop_len, qop_min, qop_max, qop_call, qop_makeFunc, qop_load, qop_typeAssert, aevO_bool, aevO_int, aevO_tmp, aevO_func, aevO_snil, Tr.get_set, Tr.get_leaf, tmpsOf, evs, evo, evps, und34, und40, und3, und2, abin, aint, notGuarded, isConstO, Bool.or_true, Bool.true_or, Bool.or_false, Nat.reduceEqDiff, ↓reduceIte, Nat.reduceAdd, Nat.zero_add, List.length_map, reduceCtorEq, alen_vl und34, alen_vl und40, alen_nil und34, Array.toList, List.append_nil, List.nil_append, List.cons_append, run_newVar, AS.push, Nat.succ_eq_add_one, fa36_0, fa36_1, fa36_2, fa36_3, und33, ldf und33 rfl g0 (o := 0) rfl ht, ldf und33 rfl g1 (o := 0) rfl ht, ldf und3 rfl g0 (o := 1) rfl ht, ldf und3 rfl g1 (o := 1) rfl ht, ldf und3 rfl g0 (o := 2) rfl ht, ldf und3 rfl g1 (o := 2) rfl ht, ldf und34 rfl g0 (o := 3) rfl ht, ldf und34 rfl g1 (o := 3) rfl ht, beq_self_eq_true, e2, fn46, hb]; rfl, by decide, ?_⟩) | (refine s_f ⟨_, rfl, by decide, ?_⟩) | (refine s_n rfl ⟨_, _, by simp only [sop_move, sop_assign, sop_pick, sop_build, sop_nilCheck, sop_binOp, sop_unOp, sop_convert, sop_makeInterface, sop_makeFunc, sop_slice, sop_fieldAddr, sop_field, sop_indexAddr, sop_index, sop_extract, sop_typeAssert, sop_len, sop_min, sop_max, sop_call, sop_alloc, sop_box, sop_buildSlice, sop_load, sop_store, sop_makeSlice, sop_append, sop_copy, qop_move, qop_assign, qop_pick, qop_build, qop_nilCheck, qop_binOp, qop_unOp, qop_convert, qop_makeInterface, qop_slice, qop_fieldAddr, qop_field, qop_indexAddr, qop_index, qop_extract, qop_len, qop_min, qop_max, qop_call, qop_makeFunc, qop_load, qop_typeAssert, aevO_bool, aevO_int, aevO_tmp, aevO_func, aevO_snil, Tr.get_set, Tr.get_leaf, tmpsOf, evs, evo, evps, und34, und40, und3, und2, abin, aint, notGuarded, isConstO, Bool.or_true, Bool.true_or, Bool.or_false, Nat.reduceEqDiff, ↓reduceIte, Nat.reduceAdd, Nat.zero_add, List.length_map, reduceCtorEq, alen_vl und34, alen_vl und40, alen_nil und34, Array.toList, List.append_nil, List.nil_append, List.cons_append, run_newVar, AS.push, Nat.succ_eq_add_one, fa36_0, fa36_1, fa36_2, fa36_3, und33, ldf und33 rfl g0 (o := 0) rfl ht, ldf und33 rfl g1 (o := 0) rfl ht, ldf und3 rfl g0 (o := 1) rfl ht, ldf und3 rfl g1 (o := 1) rfl ht, ldf und3 rfl g0 (o := 2) rfl ht, ldf und3 rfl g1 (o := 2) rfl ht, ldf und34 rfl g0 (o := 3) rfl ht, ldf und34 rfl g1 (o := 3) rfl ht, beq_self_eq_true, e2, fn46, hb]; rfl, ?_⟩))); refine s_nil ?_; dsimp only
          rw [W_code_ret]
          refine ⟨.inr rfl, rfl, ?_⟩
          simp only [aevO_tmp, Tr.get_set, Nat.reduceEqDiff, ↓reduceIte, Option.some.injEq, Value.bool.injEq]
          simp [h3]
      · subst h1
        have hb : (s1 == s2) = false := by simpa using h2
        refine W_s (callOf_eq c46) (by simp only [List.toList_toArray]; rfl) (by simp only [dsts]; rfl) ?_; (repeat (refine s_op (by simp only [wantG, dsts, List.getElem?_cons_zero, List.getElem?_cons_succ, Tr.get_set, Tr.get_leaf, Nat.reduceEqDiff, ↓reduceIte, fa36_0, fa36_1, fa36_2, fa36_3, und33, ldf und33 rfl g0 (o := 0) rfl ht, ldf und33 rfl g1 (o := 0) rfl ht, ldf und3 rfl g0 (o := 1) rfl ht, ldf und3 rfl g1 (o := 1) rfl ht, ldf und3 rfl g0 (o := 2) rfl ht, ldf und3 rfl g1 (o := 2) rfl ht, ldf und34 rfl g0 (o := 3) rfl ht, ldf und34 rfl g1 (o := 3) rfl ht, beq_self_eq_true, e2, fn46, hb]; rfl) ?_; first | (refine s_t rfl ⟨_, _, by simp only [sop_move, sop_assign, sop_pick, sop_build, sop_nilCheck, sop_binOp, sop_unOp, sop_convert, sop_makeInterface, sop_makeFunc, sop_slice, sop_fieldAddr, sop_field, sop_indexAddr, sop_index, sop_extract, sop_typeAssert, sop_len, sop_min, sop_max, sop_call, sop_alloc, sop_box, sop_buildSlice, sop_load, sop_store, sop_makeSlice, sop_append, sop_copy, qop_move, qop_assign, qop_pick, qop_build, qop_nilCheck, qop_binOp, qop_unOp, qop_convert, qop_makeInterface, qop_slice, qop_fieldAddr, qop_field, qop_indexAddr, qop_index, qop_extract, qop_len, qop_min, qop_max, qop_call, qop_makeFunc, qop_load, qop_typeAssert, aevO_bool, aevO_int, aevO_tmp, aevO_func, aevO_snil, Tr.get_set, Tr.get_leaf, tmpsOf, evs, evo, evps, und34, und40, und3, und2, abin, aint, notGuarded, isConstO, Bool.or_true, Bool.true_or, Bool.or_false, Nat.reduceEqDiff, ↓reduceIte, Nat.reduceAdd, Nat.zero_add, List.length_map, reduceCtorEq, alen_vl und34, alen_vl und40, alen_nil und34, Array.toList, List.append_nil, List.nil_append, List.cons_append, run_newVar, AS.push, Nat.succ_eq_add_one, fa36_0, fa36_1, fa36_2, fa36_3, und33, ldf und33 rfl g0 (o := 0) rfl ht, ldf und33 rfl g1 (o := 0) rfl ht, ldf und3 rfl g0 (o := 1) rfl ht, ldf und3 rfl g1 (o := 1) rfl ht, ldf und3 rfl g0 (o := 2) rfl ht, ldf und3 rfl g1 (o := 2) rfl ht, ldf und34 rfl g0 (o := 3) rfl ht, ldf und34 rfl g1 (o := 3) rfl ht, beq_self_eq_true, e2, fn46, hb]; rfl, by decide, ?_⟩) | (refine s_f ⟨_, rfl, by decide, ?_⟩) | (refine s_n rfl ⟨_, _, by simp only [sop_move, sop_assign, sop_pick, sop_build, sop_nilCheck, sop_binOp, sop_unOp, sop_convert, sop_makeInterface, sop_makeFunc, sop_slice, sop_fieldAddr, sop_field, sop_indexAddr, sop_index, sop_extract, sop_typeAssert, sop_len, sop_min, sop_max, sop_call, sop_alloc, sop_box, sop_buildSlice, sop_load, sop_store, sop_makeSlice, sop_append, sop_copy, qop_move, qop_assign, qop_pick, qop_build, qop_nilCheck, qop_binOp, qop_unOp, qop_convert, qop_makeInterface, qop_slice, qop_fieldAddr, qop_field, qop_indexAddr, qop_index, qop_extract, qop_len, qop_min, qop_max, qop_call, qop_makeFunc, qop_load, qop_typeAssert, aevO_bool, aevO_int, aevO_tmp, aevO_func, aevO_snil, Tr.get_set, Tr.get_leaf, tmpsOf, evs, evo, evps, und34, und40, und3, und2, abin, aint, notGuarded, isConstO, Bool.or_true, Bool.true_or, Bool.or_false, Nat.reduceEqDiff, ↓reduceIte, Nat.reduceAdd, Nat.zero_add, List.length_map, reduceCtorEq, alen_vl und34, alen_vl und40, alen_nil und34, Array.toList, List.append_nil, List.nil_append, List.cons_append, run_newVar, AS.push, Nat.succ_eq_add_one, fa36_0, fa36_1, fa36_2, fa36_3, und33, ldf und33 rfl g0 (o := 0) rfl ht, ldf und33 rfl g1 (o := 0) rfl ht, ldf und3 rfl g0 (o := 1) rfl ht, ldf und3 rfl g1 (o := 1) rfl ht, ldf und3 rfl g0 (o := 2) rfl ht, ldf und3 rfl g1 (o := 2) rfl ht, ldf und34 rfl g0 (o := 3) rfl ht, ldf und34 rfl g1 (o := 3) rfl ht, beq_self_eq_true, e2, fn46, hb]; rfl, ?_⟩))); refine s_nil ?_; dsimp only
        rw [W_code_ret]
        refine ⟨.inr rfl, rfl, ?_⟩
        simp only [aevO_tmp, Tr.get_set, Nat.reduceEqDiff, ↓reduceIte, Option.some.injEq, Value.bool.injEq]
        simp [h2]
    · have hb : (t1 == t2) = false := by simpa using h1
      refine W_s (callOf_eq c46) (by simp only [List.toList_toArray]; rfl) (by simp only [dsts]; rfl) ?_; (repeat (refine s_op (by simp only [wantG, dsts, List.getElem?_cons_zero, List.getElem?_cons_succ, Tr.get_set, Tr.get_leaf, Nat.reduceEqDiff, ↓reduceIte, fa36_0, fa36_1, fa36_2, fa36_3, und33, ldf und33 rfl g0 (o := 0) rfl ht, ldf und33 rfl g1 (o := 0) rfl ht, ldf und3 rfl g0 (o := 1) rfl ht, ldf und3 rfl g1 (o := 1) rfl ht, ldf und3 rfl g0 (o := 2) rfl ht, ldf und3 rfl g1 (o := 2) rfl ht, ldf und34 rfl g0 (o := 3) rfl ht, ldf und34 rfl g1 (o := 3) rfl ht, beq_self_eq_true, e2, fn46, hb]; rfl) ?_; first | (refine s_t rfl ⟨_, _, by simp only [sop_move, sop_assign, sop_pick, sop_build, sop_nilCheck, sop_binOp, sop_unOp, sop_convert, sop_makeInterface, sop_makeFunc, sop_slice, sop_fieldAddr, sop_field, sop_indexAddr, sop_index, sop_extract, sop_typeAssert, sop_len, sop_min, sop_max, sop_call, sop_alloc, sop_box, sop_buildSlice, sop_load, sop_store, sop_makeSlice, sop_append, sop_copy, qop_move, qop_assign, qop_pick, qop_build, qop_nilCheck, qop_binOp, qop_unOp, qop_convert, qop_makeInterface, qop_slice, qop_fieldAddr, qop_field, qop_indexAddr, qop_index, qop_extract, qop_len, qop_min, qop_max, qop_call, qop_makeFunc, qop_load, qop_typeAssert, aevO_bool, aevO_int, aevO_tmp, aevO_func, aevO_snil, Tr.get_set, Tr.get_leaf, tmpsOf, evs, evo, evps, und34, und40, und3, und2, abin, aint, notGuarded, isConstO, Bool.or_true, Bool.true_or, Bool.or_false, Nat.reduceEqDiff, ↓reduceIte, Nat.reduceAdd, Nat.zero_add, List.length_map, reduceCtorEq, alen_vl und34, alen_vl und40, alen_nil und34, Array.toList, List.append_nil, List.nil_append, List.cons_append, run_newVar, AS.push, Nat.succ_eq_add_one, fa36_0, fa36_1, fa36_2, fa36_3, und33, ldf und33 rfl g0 (o := 0) rfl ht, ldf und33 rfl g1 (o := 0) rfl ht, ldf und3 rfl g0 (o := 1) rfl ht, ldf und3 rfl g1 (o := 1) rfl ht, ldf und3 rfl g0 (o := 2) rfl ht, ldf und3 rfl g1 (o := 2) rfl ht, ldf und34 rfl g0 (o := 3) rfl ht, ldf und34 rfl g1 (o := 3) rfl ht, beq_self_eq_true, e2, fn46, hb]; rfl, by decide, ?_⟩) | (refine s_f ⟨_, rfl, by decide, ?_⟩) | (refine s_n rfl ⟨_, _, by simp only [sop_move, sop_assign, sop_pick, sop_build, sop_nilCheck, sop_binOp, sop_unOp, sop_convert, sop_makeInterface, sop_makeFunc, sop_slice, sop_fieldAddr, sop_field, sop_indexAddr, sop_index, sop_extract, sop_typeAssert, sop_len, sop_min, sop_max, sop_call, sop_alloc, sop_box, sop_buildSlice, sop_load, sop_store, sop_makeSlice, sop_append, sop_copy, qop_move, qop_assign, qop_pick, qop_build, qop_nilCheck, qop_binOp, qop_unOp, qop_convert, qop_makeInterface, qop_slice, qop_fieldAddr, qop_field, qop_indexAddr, qop_index, qop_extract, qop_len, qop_min, qop_max, qop_call, qop_makeFunc, qop_load, qop_typeAssert, aevO_bool, aevO_int, aevO_tmp, aevO_func, aevO_snil, Tr.get_set, Tr.get_leaf, tmpsOf, evs, evo, evps, und34, und40, und3, und2, abin, aint, notGuarded, isConstO, Bool.or_true, Bool.true_or, Bool.or_false, Nat.reduceEqDiff, ↓reduceIte, Nat.reduceAdd, Nat.zero_add, List.length_map, reduceCtorEq, alen_vl und34, alen_vl und40, alen_nil und34, Array.toList, List.append_nil, List.nil_append, List.cons_append, run_newVar, AS.push, Nat.succ_eq_add_one, fa36_0, fa36_1, fa36_2, fa36_3, und33, ldf und33 rfl g0 (o := 0) rfl ht, ldf und33 rfl g1 (o := 0) rfl ht, ldf und3 rfl g0 (o := 1) rfl ht, ldf und3 rfl g1 (o := 1) rfl ht, ldf und3 rfl g0 (o := 2) rfl ht, ldf und3 rfl g1 (o := 2) rfl ht, ldf und34 rfl g0 (o := 3) rfl ht, ldf und34 rfl g1 (o := 3) rfl ht, beq_self_eq_true, e2, fn46, hb]; rfl, ?_⟩))); refine s_nil ?_; dsimp only
      rw [W_code_ret]
      refine ⟨.inr rfl, rfl, ?_⟩
      simp only [aevO_tmp, Tr.get_set, Nat.reduceEqDiff, ↓reduceIte, Option.some.injEq, Value.bool.injEq]
      simp [h1]
end
end Go.Proofs.BhE.T
