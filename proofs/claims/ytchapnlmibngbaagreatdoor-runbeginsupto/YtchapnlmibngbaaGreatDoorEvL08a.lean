/- RunBegins: the row and the card. -/
import Derived.Test.YtchapnlmibngbaaGreatDoorCards
import Derived.Test.YtchapnlmibngbaaGreatDoorTie
import Derived.Test.YtchapnlmibngbaaGreatDoorEvX7
import Derived.Test.YtchapnlmibngbaaGreatDoorEvYRB2
import Derived.WalkKit
import Derived.ProofKit
import Derived.OpenShut
import Derived.Carry
import Derived.Deep.DeepHandedRow
import Derived.Deep.DeepWitnessRowRef
set_option linter.all false
namespace Go.Proofs.YtchapnlmibngbaaGreatDoor.bh
open Go Go.ChangeShapes Go.WideShapes Go.ChangeAt Go.RowKit Go.Proofs.BhE
noncomputable section
set_option maxRecDepth 100000
theorem own : ownKnob Tryz.prog.godebug = none := by kernel_rfl
theorem laidOut : laidOutB Tryz.prog = true := by kernel_rfl

/-! ### A world for the witness: the listed variables hold what their initialisers lay -/
noncomputable def laidWorld (os : Os) : World :=
  let N := (World.settled Tryz.prog os).heap.size
  let w0 := World.holding Tryz.prog os ⟨#[.cells #[.string ⟨#[118, 97, 108, 117, 101, 32, 111, 117, 116, 32, 111, 102, 32, 114, 97, 110, 103, 101]⟩] 363, .cells #[.string ⟨#[105, 110, 118, 97, 108, 105, 100, 32, 115, 121, 110, 116, 97, 120]⟩] 363], #[], []⟩
  let put (h : Array Obj) (g : Nat) (cs : Array Value) : Array Obj := h.modify g fun
    | .cells _ t frozen => .cells cs t frozen
    | o => o
  let h1 := put w0.heap 1 #[.iface 361 (.pointer (some ⟨N + 1, 0, none⟩))]
  let h2 := put h1 2 #[.iface 361 (.pointer (some ⟨N, 0, none⟩))]
  let h3 := put h2 3 ((List.range 20).map fun i => Value.int .u64 (10 ^ i : Nat)).toArray
  let h4 := put h3 4 ([0, 1, 28, 2, 29, 14, 24, 3, 30, 22, 20, 15, 25, 17, 4, 8, 31, 27, 13, 23, 21, 19, 16, 7, 26, 12, 18, 6, 11, 5, 10, 9].map fun z : Nat => Value.int .u8 z).toArray
  let h5 := put h4 5 ([0, 1, 56, 2, 57, 49, 28, 3, 61, 58, 42, 50, 38, 29, 17, 4, 62, 47, 59, 36, 45, 43, 51, 22, 53, 39, 33, 30, 24, 18, 12, 5, 63, 55, 48, 27, 60, 41, 37, 16, 46, 35, 44, 21, 52, 32, 23, 11, 54, 26, 40, 15, 34, 20, 31, 10, 25, 14, 19, 9, 13, 8, 7, 6].map fun z : Nat => Value.int .u8 z).toArray
  { w0 with heap := h5 }
theorem laid_met (os : Os) (args : Array Value) : laidMet Tryz.prog Rows.runBeginsUptoRow.laid ((laidWorld os).forCall (fun _ _ => 0) ⟨#[], args, []⟩).memory :=
  laidMet_of_run' 8 (by kernel_rfl) (by kernel_rfl)

/-! ### The bulk -/
theorem all_len {H : Type} : ∀ l : List (DataW H), l.length ≤ Rows.uptoBulkAll l
  | [] => Nat.zero_le _
  | d :: l => by
    have h1 : 1 ≤ Rows.uptoBulk d := by
      cases d with
      | lit l => cases l <;> simp [Rows.uptoBulk]
      | _ => simp [Rows.uptoBulk]
    have h2 := all_len l
    simp only [List.length_cons, Rows.uptoBulkAll]
    omega
theorem all_mem {H : Type} {d : DataW H} : ∀ {l : List (DataW H)}, d ∈ l → Rows.uptoBulk d ≤ Rows.uptoBulkAll l
  | [], h => by cases h
  | e :: l, h => by
    simp only [Rows.uptoBulkAll]
    rcases List.mem_cons.1 h with rfl | h
    · omega
    · have := all_mem h
      omega
theorem bulkOk (H : Type) : BulkOk (Rows.uptoBulk (H := H)) := by
  refine ⟨fun es rs => ?_, fun es rs d h => ?_, fun ps d h => ?_⟩
  · have := all_len es
    simp only [Rows.uptoBulk]
    omega
  · have := all_mem h
    simp only [Rows.uptoBulk]
    omega
  · have := all_mem h
    simp only [Rows.uptoBulk]
    omega

/-! ### RunBegins -/
theorem cells2 : Tryz.prog.cellsOf 2 = 1 := by kernel_rfl
theorem cells40 : Tryz.prog.cellsOf 40 = 1 := by kernel_rfl
open Go.Proofs.BhE.T in
theorem walk (W : World) (v0 v1 : Value) (own : Bool) (cut : Int) (a b : List (List Int)) (ha : shorts a) (hb : shorts b) (h0 : VRel (rhoW W) (ill a) v0) (h1 : VRel (rhoW W) (ill b) v1) (hc : (Lit.int .u8 cut).wf = true) :
    Calls Tryz.prog 6 #[v0, v1, .bool own, .int .u8 cut] W fun e w' => e = .returned (.bool true) ∧ Below W.heap.size W w' := by
  have hc' : 0 ≤ cut ∧ cut < 256 := by
    have h : (decide (IntKind.u8.min ≤ cut) && decide (cut ≤ IntKind.u8.max)) = true := hc
    simp [IntKind.min, IntKind.max, IntKind.signed, IntKind.bits] at h
    omega
  obtain ⟨n, rfl⟩ : ∃ n : Nat, cut = n := ⟨cut.toNat, by omega⟩
  exact calls_of_pure (runBegins_pure a b own n (by omega) ha hb) (.cons h0 (.cons h1 (.cons (.bool own) (.cons (.int _ _) .nil))))

theorem reads (os : Os) {H : Type} (enc : TypeId × Value → H) : ∃ places, DataW.whole enc Tryz.prog ((laidWorld os).forCall (fun _ _ => 0) ⟨#[], #[.slice none 0 0, .slice none 0 0, .bool false, .int .u8 0], []⟩).memory Tryz.f6.params.toList Rows.runBeginsSpec.vars false (#[.slice none 0 0, .slice none 0 0, .bool false, .int .u8 0] : Array Value).toList 8 = some ([.nil, .nil, .lit (.bool false), .lit (.int .u8 0)], [], places) :=
  ⟨[], by kernel_rfl⟩

open Go.Proofs.BhE.T in
theorem rd_ill {H : Type} {enc : TypeId × Value → H} {W : World} : Rd enc Tryz.prog W 0 (fun _ => true) true Rows.uptoBulk 1048576 34 (fun ys : List (List Int) => [ill ys]) (fun ys => ys.length ≤ 1048576 ∧ ∀ y ∈ ys, y.length ≤ 1048576 ∧ ∀ n ∈ y, (Lit.int .i64 n).wf = true) := by
  have h1 := rd_slice (W := W) (enc := enc) (base := 0) (sp := fun _ => true) (held := true) (N := 1048576) (bulkOk H) Tryz.underlying40 cells2 (by decide) (it := iv) (fun _ => rfl) (fun _ => rfl) (fun y => .cons (.int _ _) .nil) (rd_int Tryz.underlying2)
  exact rd_slice (bulkOk H) Tryz.underlying34 cells40 (by decide) (it := il) (fun _ => rfl) (fun _ => rfl) (fun y => .cons (.list (by
    have : ∀ l : List Int, Idss (fun _ => False) (flatC (l.map iv)) := by
      intro l
      induction l with
      | nil => exact .nil
      | cons n l ih => exact .cons (.int _ _) ih
    simpa using this y)) .nil) h1

set_option maxHeartbeats 1000000 in
open Go.Proofs.BhE.T in
theorem liftedUpto (os : Os) (started : os.Started) (H : Type) (enc : TypeId × Value → H) (F : Stop.Interp) :
    ReturnsInHanded {} Tryz.checked os 6 .any ((Rows.OpenSpec.upto Rows.runBeginsSpec).preRow enc Tryz.prog Tryz.f6 Rows.runBeginsUptoRow.domain false Rows.runBeginsUptoRow.laid) (((Rows.OpenSpec.upto Rows.runBeginsSpec).at F).post enc Tryz.prog Tryz.f6 false true false false) := by
  obtain ⟨places, hx⟩ := reads os enc
  refine returnsInHanded_of_row (C := Tryz.checked) (s := Rows.OpenSpec.upto Rows.runBeginsSpec) own started (by kernel_rfl) Tryz.func6
    (witness_row_atRef (enc := enc) (C := Tryz.checked) false (laidWorld os) #[.slice none 0 0, .slice none 0 0, .bool false, .int .u8 0] rfl (by kernel_rfl) (by kernel_rfl) (by kernel_rfl)
      (OpenSpec.preRow_of_cond 8 hx (by kernel_rfl) (fun k hk => by cases hk; kernel_rfl) (by kernel_rfl) (laid_met os _))) ?_
  intro W base args ds gs before hval0 hW _ hcond _ _ _ _
  have hval : ∀ (j : Nat) t v, Tryz.f6.params[j]? = some t → args[j]? = some v → Value.okWide Tryz.prog W .any base t v := hval0
  have hbulk0 := hcond _ rfl
  have hbulk : Rows.uptoBulkAll (ds ++ gs) ≤ 1048576 := of_decide_eq_true hbulk0
  have hW' := hW
  obtain ⟨p, q, hA0, hV, rfl, hfz, hnd⟩ := hW
  have hA : DataW.TrodAll enc Tryz.prog W 0 (fun _ => true) true Tryz.f6.params.toList args.toList ds p := hA0
  rw [Tryz.params6] at hA hval
  obtain ⟨v0, vs0, d0, ds0, p0, q0, hargs, rfl, rfl, t0, r0⟩ := trodAll_cons hA
  obtain ⟨v1, vs1, d1, ds1, p1, q1, rfl, rfl, rfl, t1, r1⟩ := trodAll_cons r0
  obtain ⟨v2, vs2, d2, ds2, p2, q2, rfl, rfl, rfl, t2, r2⟩ := trodAll_cons r1
  obtain ⟨v3, vs3, d3, ds3, p3, q3, rfl, rfl, rfl, t3, r3⟩ := trodAll_cons r2
  obtain ⟨rfl, rfl, rfl⟩ := trodAll_nil r3
  obtain rfl : args = #[v0, v1, v2, v3] := by cases args; simp_all
  obtain ⟨rfl, rfl⟩ := trodVars_none hV
  have b0 : Rows.uptoBulk d0 ≤ 1048576 := Nat.le_trans (all_mem (by simp)) hbulk
  have b1 : Rows.uptoBulk d1 ≤ 1048576 := Nat.le_trans (all_mem (by simp)) hbulk
  have lt0 : ∀ x ∈ p0, x.block < W.heap.size := by obtain ⟨m, hm⟩ := t0; exact DataW.trod_lt m _ _ _ hm
  have lt1 : ∀ x ∈ p1, x.block < W.heap.size := by obtain ⟨m, hm⟩ := t1; exact DataW.trod_lt m _ _ _ hm
  obtain ⟨own, rfl, rfl, rfl⟩ := open_bool Tryz.underlying4 (hval 2 4 v2 rfl rfl) t2
  obtain ⟨cut, rfl, rfl, rfl, wc⟩ := open_int Tryz.underlying5 (hval 3 5 v3 rfl rfl) t3
  obtain ⟨a0, len0, cap0, rfl⟩ := okWide_slice Tryz.underlying34 (hval 0 34 v0 rfl rfl)
  obtain ⟨a1, len1, cap1, rfl⟩ := okWide_slice Tryz.underlying34 (hval 1 34 v1 rfl rfl)
  obtain ⟨a, ha, hr0⟩ : ∃ a : List (List Int), shorts a ∧ VRel (rhoW W) (ill a) (.slice a0 len0 cap0) := by
    obtain ⟨m, hm⟩ := t0
    obtain ⟨y, hy, hr⟩ := rd_ill m _ _ hm b0
    cases hr with
    | cons hr _ => exact ⟨y, ⟨by have := hy.1; unfold short; omega, fun x hx => by have := (hy.2 x hx).1; unfold short; omega⟩, hr⟩
  obtain ⟨b, hb, hr1⟩ : ∃ a : List (List Int), shorts a ∧ VRel (rhoW W) (ill a) (.slice a1 len1 cap1) := by
    obtain ⟨m, hm⟩ := t1
    obtain ⟨y, hy, hr⟩ := rd_ill m _ _ hm b1
    cases hr with
    | cons hr _ => exact ⟨y, ⟨by have := hy.1; unfold short; omega, fun x hx => by have := (hy.2 x hx).1; unfold short; omega⟩, hr⟩
  clear hA0 hval0
  refine (walk W _ _ own cut a b ha hb hr0 hr1 wc).mono fun e W' ⟨he, bel⟩ => ?_
  subst he
  exact ⟨_, rfl, _, _, _, [], _, [], hW', trodAll_mk1 (shut_bool Tryz.underlying4 _), (trodAll_cons_mk (Below.trod laidOut (by kernel_rfl) (of_decide_eq_true (by kernel_rfl)) t0 bel lt0) (trodAll_cons_mk (Below.trod laidOut (by kernel_rfl) (of_decide_eq_true (by kernel_rfl)) t1 bel lt1) (trodAll_cons_mk (shut_bool Tryz.underlying4 _) (trodAll_cons_mk (shut_int Tryz.underlying5 wc) trodAll_mk0)))), rfl, bel.frame _, fun h => by cases h⟩

end
end Go.Proofs.YtchapnlmibngbaaGreatDoor.bh
