/- The row of ChooseNoop, by its run at the plain level. -/
import Derived.Test.YthecdihimfddgaaRows
import Derived.Test.YthecdihimfddgaaChoose7
import Derived.Test.YthecdihimfddgaaNvLaw
import Derived.WalkKit
import Derived.ProofKit
import Derived.OpenShut
import Derived.ShutString
import Derived.ChangeOld
import Derived.Below
import Derived.LaidSub
namespace Go.Proofs.Ythecdihimfddgaa.chooseNoop
open Go Go.ChangeShapes Go.WideShapes Go.ChangeAt Go.RowKit Go.Proofs.Ythecdihimfddgaa.Nv
open Go.ChangeMaps (open_string shut_string)
set_option linter.unusedVariables false
theorem own : ownKnob Try.prog.godebug = none := by kernel_rfl
theorem mixed : Try.prog.follows .mixedOrders = true := by kernel_rfl
theorem laidOut : laidOutB Try.prog = true := by kernel_rfl
set_option maxRecDepth 100000 in
theorem lifted (os : Os) (started : os.Started) (H : Type) (enc : TypeId × Value → H) :
    ReturnsInHanded {} Try.checked os 6 .any (Rows.chooseNoopSpec.pre6 enc Try.prog Try.f6 Rows.chooseNoopRow.domain false) (Rows.chooseNoopSpec.post enc Try.prog Try.f6 false true false false) := by
  refine returnsInHanded_of_change_sized (C := Try.checked) own started (by kernel_rfl) Try.func6
    (ChangeSpec.witness6 (enc := enc) (C := Try.checked) false ⟨#[], #[.int .u8 0, .int .u8 0, .int .u8 0, .agg #[.int .i64 0, .int .i64 0, .int .u32 0, .string ByteArray.empty, .string ByteArray.empty, .bool false], .agg #[.int .u32 0, .slice none 0 0, .bool false, .slice none 0 0], .int .u8 0], []⟩ 12 (by kernel_rfl) (by kernel_rfl) (by kernel_rfl) (by kernel_rfl)) ?_
  intro W base args ds gs before hval0 hW hcnd hsz0 _
  have hsz : (DataW.weightsEach Try.prog (Try.f6.params.toList ++ Rows.chooseNoopSpec.plain.varTypes Try.prog) (ds ++ gs)).all (· ≤ reachBytes) = true := hsz0
  have hval : ∀ (j : Nat) t v, Try.f6.params[j]? = some t → args[j]? = some v → Value.okWide Try.prog W .any base t v := hval0
  have hW' := hW
  obtain ⟨p, q, hA0, hV, rfl, hfz, hnd⟩ := hW
  have hA : DataW.TrodAll enc Try.prog W 0 (fun _ => true) true Try.f6.params.toList args.toList ds p := hA0
  rw [Try.params6] at hA hval hsz
  obtain ⟨v0, vs0, d0, ds0, p0, q0, hargs, rfl, rfl, h0, r0⟩ := trodAll_cons hA
  obtain ⟨v1, vs1, d1, ds1, p1, q1, rfl, rfl, rfl, h1, r1⟩ := trodAll_cons r0
  obtain ⟨v2, vs2, d2, ds2, p2, q2, rfl, rfl, rfl, h2, r2⟩ := trodAll_cons r1
  obtain ⟨v3, vs3, d3, ds3, p3, q3, rfl, rfl, rfl, h3, r3⟩ := trodAll_cons r2
  obtain ⟨v4, vs4, d4, ds4, p4, q4, rfl, rfl, rfl, h4, r4⟩ := trodAll_cons r3
  obtain ⟨v5, vs5, d5, ds5, p5, q5, rfl, rfl, rfl, h5, r5⟩ := trodAll_cons r4
  obtain ⟨rfl, rfl, rfl⟩ := trodAll_nil r5
  obtain rfl : args = #[v0, v1, v2, v3, v4, v5] := by cases args; simp_all
  obtain ⟨rfl, rfl⟩ := trodVars_none hV
  obtain ⟨a0, rfl, rfl, rfl, g0⟩ := open_int Try.underlying5 (hval 0 5 v0 rfl rfl) h0
  obtain ⟨a1, rfl, rfl, rfl, g1⟩ := open_int Try.underlying5 (hval 1 5 v1 rfl rfl) h1
  obtain ⟨a2, rfl, rfl, rfl, g2⟩ := open_int Try.underlying5 (hval 2 5 v2 rfl rfl) h2
  have lt3 := nplaces_lt h3
  obtain ⟨a3, k3, g3⟩ := narg_struct Try.underlying64 (hval 3 64 v3 rfl rfl) h3 (nsized_all hsz (j := 3) (t := 64) rfl rfl) (ntells_struct (n := 6) Try.underlying64 rfl (by kernel_rfl) (ntells_cons (k := 5) (ntells_struct (n := 5) Try.underlying31 rfl (by kernel_rfl) (ntells_cons (k := 1) (ntells_int Try.underlying3) (by kernel_rfl) (ntells_cons (k := 1) (ntells_int Try.underlying3) (by kernel_rfl) (ntells_cons (k := 1) (ntells_int Try.underlying29) (by kernel_rfl) (ntells_cons (k := 1) (ntells_string Try.underlying9) (by kernel_rfl) (ntells_cons (k := 1) (ntells_string Try.underlying9) (by kernel_rfl) ntells_nil)))))) (by kernel_rfl) (ntells_cons (k := 1) (ntells_bool Try.underlying4) (by kernel_rfl) ntells_nil)))
  have lt4 := nplaces_lt h4
  obtain ⟨a4, k4, g4⟩ := narg_struct Try.underlying66 (hval 4 66 v4 rfl rfl) h4 (nsized_all hsz (j := 4) (t := 66) rfl rfl) (ntells_struct (n := 4) Try.underlying66 rfl (by kernel_rfl) (ntells_cons (k := 2) (ntells_struct (n := 2) Try.underlying34 rfl (by kernel_rfl) (ntells_cons (k := 1) (ntells_int Try.underlying29) (by kernel_rfl) (ntells_cons (k := 1) (ntells_slice (e := 54) (B := 16) (sz := 2) Try.underlying32 (by kernel_rfl) (by decide) (by kernel_rfl) (ntells_struct (n := 2) Try.underlying54 rfl (by kernel_rfl) (ntells_cons (k := 1) (ntells_int Try.underlying3) (by kernel_rfl) (ntells_cons (k := 1) (ntells_int Try.underlying3) (by kernel_rfl) ntells_nil)))) (by kernel_rfl) ntells_nil))) (by kernel_rfl) (ntells_cons (k := 1) (ntells_bool Try.underlying4) (by kernel_rfl) (ntells_cons (k := 1) (ntells_slice (e := 5) (B := 1) (sz := 1) Try.underlying51 (by kernel_rfl) (by decide) (by kernel_rfl) (ntells_int Try.underlying5)) (by kernel_rfl) ntells_nil))))
  obtain ⟨a5, rfl, rfl, rfl, g5⟩ := open_int Try.underlying5 (hval 5 5 v5 rfl rfl) h5
  clear hA0 hval0 hsz0 hsz
  have b0 : (0 : Int) ≤ a0 ∧ a0 ≤ 255 := wf_int g0
  have b1 : (0 : Int) ≤ a1 ∧ a1 ≤ 255 := wf_int g1
  have b2 : (0 : Int) ≤ a2 ∧ a2 ≤ 255 := wf_int g2
  obtain ⟨_, _, rfl, ⟨_, _, rfl, ⟨x3_0_0, rfl, wx3_0_0⟩, ⟨_, _, rfl, ⟨x3_0_1, rfl, wx3_0_1⟩, ⟨_, _, rfl, ⟨x3_0_2, rfl, wx3_0_2⟩, ⟨_, _, rfl, ⟨x3_0_3, rfl, wx3_0_3⟩, ⟨_, _, rfl, ⟨x3_0_4, rfl, wx3_0_4⟩, rfl⟩⟩⟩⟩⟩, ⟨_, _, rfl, ⟨x3_1, rfl⟩, rfl⟩⟩ := g3
  have bx3_0_0 : (-9223372036854775808 : Int) ≤ x3_0_0 ∧ x3_0_0 ≤ 9223372036854775807 := wf_int wx3_0_0
  have bx3_0_1 : (-9223372036854775808 : Int) ≤ x3_0_1 ∧ x3_0_1 ≤ 9223372036854775807 := wf_int wx3_0_1
  have bx3_0_2 : (0 : Int) ≤ x3_0_2 ∧ x3_0_2 ≤ 4294967295 := wf_int wx3_0_2
  obtain ⟨_, _, rfl, ⟨_, _, rfl, ⟨x4_0_0, rfl, wx4_0_0⟩, ⟨_, _, rfl, ⟨x4_0_1, rfl, wx4_0_1, kx4_0_1⟩, rfl⟩⟩, ⟨_, _, rfl, ⟨x4_1, rfl⟩, ⟨_, _, rfl, ⟨x4_2, rfl, wx4_2, kx4_2⟩, rfl⟩⟩⟩ := g4
  have bx4_0_0 : (0 : Int) ≤ x4_0_0 ∧ x4_0_0 ≤ 4294967295 := wf_int wx4_0_0
  have b5 : (0 : Int) ≤ a5 ∧ a5 ≤ 255 := wf_int g5
  refine (law_calls mixed F_ok (fun _ _ _ h => h.elim) (lawNoop a0 a1 a2 x3_0_0 x3_0_1 x3_0_2 x3_0_3 x3_0_4 x3_1 x4_0_0 x4_0_1 x4_1 x4_2 a5 b0 b1 b2 bx3_0_0 bx3_0_1 bx3_0_2 wx3_0_3 wx3_0_4 bx4_0_0 wx4_0_1 kx4_0_1 wx4_2 kx4_2 b5) (.cons (R.int .u8 a0) (.cons (R.int .u8 a1) (.cons (R.int .u8 a2) (.cons k3 (.cons k4 (.cons (R.int .u8 a5) .nil))))))).mono fun e W' ⟨he, bel0⟩ => ?_
  have bel : Below W.heap.size W W' := bel0
  subst he
  exact ⟨_, rfl, _, _, _, [], _, [], hW', trodAll_mk1 (shut_bool Try.underlying4 _), (trodAll_cons_mk (shut_int Try.underlying5 g0) (trodAll_cons_mk (shut_int Try.underlying5 g1) (trodAll_cons_mk (shut_int Try.underlying5 g2) (trodAll_cons_mk (Below.trod laidOut (by kernel_rfl) (of_decide_eq_true (by kernel_rfl)) h3 bel lt3) (trodAll_cons_mk (Below.trod laidOut (by kernel_rfl) (of_decide_eq_true (by kernel_rfl)) h4 bel lt4) (trodAll_cons_mk (shut_int Try.underlying5 g5) trodAll_mk0)))))), rfl, bel.frame _, fun h => by cases h⟩
theorem over : Rows.chooseNoopRow.holds Try.pinned (OpenSpec.ofChange Rows.chooseNoopSpec) :=
  OpenClaim.holds_of_wide 6 Try.f6 rfl rfl rfl rfl rfl rfl rfl ⟨rfl, rfl, rfl, rfl, rfl⟩ rfl rfl rfl rfl rfl (by kernel_rfl) Try.func6 (by kernel_rfl)
    (of_decide_eq_true (by kernel_rfl)) (by unfold Func.isWrapper; first | (rw [if_pos (by decide +kernel)]; kernel_rfl) | (rw [if_neg (by decide +kernel)]; exact ⟨rfl, rfl⟩))
    (fun os started H enc _ => lifted os started H enc)
theorem proved : Rows.ChooseNoopSaid := over
#print axioms proved
end Go.Proofs.Ythecdihimfddgaa.chooseNoop
namespace Go.Proofs.Ythecdihimfddgaa
/-- The row, under a short name, for the claim. -/
theorem chooseNoop_holds : Rows.ChooseNoopSaid := chooseNoop.proved
end Go.Proofs.Ythecdihimfddgaa
