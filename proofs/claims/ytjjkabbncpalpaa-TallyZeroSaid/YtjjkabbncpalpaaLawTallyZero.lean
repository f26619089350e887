/- The row of TallyZero, by its run at the plain level. -/
import Derived.Test.YtjjkabbncpalpaaRows
import Derived.Test.YtjjkabbncpalpaaTally4
import Derived.Test.YtjjkabbncpalpaaNvLaw
import Derived.WalkKit
import Derived.ProofKit
import Derived.OpenShut
import Derived.ShutString
import Derived.ChangeOld
import Derived.Below
import Derived.LaidSub
namespace Go.Proofs.Ytjjkabbncpalpaa.tallyZero
open Go Go.ChangeShapes Go.WideShapes Go.ChangeAt Go.RowKit Go.Proofs.Ytjjkabbncpalpaa.Nv
open Go.ChangeMaps (open_string shut_string)
set_option linter.unusedVariables false
theorem own : ownKnob Try.prog.godebug = none := by kernel_rfl
theorem mixed : Try.prog.follows .mixedOrders = true := by kernel_rfl
theorem laidOut : laidOutB Try.prog = true := by kernel_rfl
set_option maxRecDepth 100000 in
theorem lifted (os : Os) (started : os.Started) (H : Type) (enc : TypeId × Value → H) :
    ReturnsInHanded {} Try.checked os 8 .any (Rows.tallyZeroSpec.pre6 enc Try.prog Try.f8 Rows.tallyZeroRow.domain false) (Rows.tallyZeroSpec.post enc Try.prog Try.f8 false true false false) := by
  refine returnsInHanded_of_change_sized (C := Try.checked) own started (by kernel_rfl) Try.func8
    (ChangeSpec.witness6 (enc := enc) (C := Try.checked) false ⟨#[], #[.int .u8 0, .int .u8 0, .bool false, .agg #[.int .u32 0, .slice none 0 0, .bool false, .slice none 0 0]], []⟩ 12 (by kernel_rfl) (by kernel_rfl) (by kernel_rfl) (by kernel_rfl)) ?_
  intro W base args ds gs before hval0 hW hcnd hsz0 _
  have hsz : (DataW.weightsEach Try.prog (Try.f8.params.toList ++ Rows.tallyZeroSpec.plain.varTypes Try.prog) (ds ++ gs)).all (· ≤ reachBytes) = true := hsz0
  have hval : ∀ (j : Nat) t v, Try.f8.params[j]? = some t → args[j]? = some v → Value.okWide Try.prog W .any base t v := hval0
  have hW' := hW
  obtain ⟨p, q, hA0, hV, rfl, hfz, hnd⟩ := hW
  have hA : DataW.TrodAll enc Try.prog W 0 (fun _ => true) true Try.f8.params.toList args.toList ds p := hA0
  rw [Try.params8] at hA hval hsz
  obtain ⟨v0, vs0, d0, ds0, p0, q0, hargs, rfl, rfl, h0, r0⟩ := trodAll_cons hA
  obtain ⟨v1, vs1, d1, ds1, p1, q1, rfl, rfl, rfl, h1, r1⟩ := trodAll_cons r0
  obtain ⟨v2, vs2, d2, ds2, p2, q2, rfl, rfl, rfl, h2, r2⟩ := trodAll_cons r1
  obtain ⟨v3, vs3, d3, ds3, p3, q3, rfl, rfl, rfl, h3, r3⟩ := trodAll_cons r2
  obtain ⟨rfl, rfl, rfl⟩ := trodAll_nil r3
  obtain rfl : args = #[v0, v1, v2, v3] := by cases args; simp_all
  obtain ⟨rfl, rfl⟩ := trodVars_none hV
  obtain ⟨a0, rfl, rfl, rfl, g0⟩ := open_int Try.underlying5 (hval 0 5 v0 rfl rfl) h0
  obtain ⟨a1, rfl, rfl, rfl, g1⟩ := open_int Try.underlying5 (hval 1 5 v1 rfl rfl) h1
  obtain ⟨a2, rfl, rfl, rfl⟩ := open_bool Try.underlying4 (hval 2 4 v2 rfl rfl) h2
  have lt3 := nplaces_lt h3
  obtain ⟨a3, k3, g3⟩ := narg_struct Try.underlying28 (hval 3 28 v3 rfl rfl) h3 (nsized_all hsz (j := 3) (t := 28) rfl rfl) (ntells_struct (n := 4) Try.underlying28 rfl (by kernel_rfl) (ntells_cons (k := 2) (ntells_struct (n := 2) Try.underlying25 rfl (by kernel_rfl) (ntells_cons (k := 1) (ntells_int Try.underlying22) (by kernel_rfl) (ntells_cons (k := 1) (ntells_slice (e := 62) (B := 16) (sz := 2) Try.underlying23 (by kernel_rfl) (by decide) (by kernel_rfl) (ntells_struct (n := 2) Try.underlying62 rfl (by kernel_rfl) (ntells_cons (k := 1) (ntells_int Try.underlying3) (by kernel_rfl) (ntells_cons (k := 1) (ntells_int Try.underlying3) (by kernel_rfl) ntells_nil)))) (by kernel_rfl) ntells_nil))) (by kernel_rfl) (ntells_cons (k := 1) (ntells_bool Try.underlying4) (by kernel_rfl) (ntells_cons (k := 1) (ntells_slice (e := 5) (B := 1) (sz := 1) Try.underlying26 (by kernel_rfl) (by decide) (by kernel_rfl) (ntells_int Try.underlying5)) (by kernel_rfl) ntells_nil))))
  clear hA0 hval0 hsz0 hsz
  have b0 : (0 : Int) ≤ a0 ∧ a0 ≤ 255 := wf_int g0
  have b1 : (0 : Int) ≤ a1 ∧ a1 ≤ 255 := wf_int g1
  obtain ⟨_, _, rfl, ⟨_, _, rfl, ⟨x3_0_0, rfl, wx3_0_0⟩, ⟨_, _, rfl, ⟨x3_0_1, rfl, wx3_0_1, kx3_0_1⟩, rfl⟩⟩, ⟨_, _, rfl, ⟨x3_1, rfl⟩, ⟨_, _, rfl, ⟨x3_2, rfl, wx3_2, kx3_2⟩, rfl⟩⟩⟩ := g3
  have bx3_0_0 : (0 : Int) ≤ x3_0_0 ∧ x3_0_0 ≤ 4294967295 := wf_int wx3_0_0
  refine (law_calls mixed F_ok (fun _ _ _ h => h.elim) (law8w a0 a1 a2 x3_0_0 x3_0_1 x3_1 x3_2 b0 b1 bx3_0_0 wx3_0_1 kx3_0_1 wx3_2 kx3_2) (.cons (R.int .u8 a0) (.cons (R.int .u8 a1) (.cons (R.bool a2) (.cons k3 .nil))))).mono fun e W' ⟨he, bel0⟩ => ?_
  have bel : Below W.heap.size W W' := bel0
  subst he
  exact ⟨_, rfl, _, _, _, [], _, [], hW', trodAll_mk1 (shut_bool Try.underlying4 _), (trodAll_cons_mk (shut_int Try.underlying5 g0) (trodAll_cons_mk (shut_int Try.underlying5 g1) (trodAll_cons_mk (shut_bool Try.underlying4 a2) (trodAll_cons_mk (Below.trod laidOut (by kernel_rfl) (of_decide_eq_true (by kernel_rfl)) h3 bel lt3) trodAll_mk0)))), rfl, bel.frame _, fun h => by cases h⟩
theorem over : Rows.tallyZeroRow.holds Try.pinned (OpenSpec.ofChange Rows.tallyZeroSpec) :=
  OpenClaim.holds_of_wide 8 Try.f8 rfl rfl rfl rfl rfl rfl rfl ⟨rfl, rfl, rfl, rfl, rfl⟩ rfl rfl rfl rfl rfl (by kernel_rfl) Try.func8 (by kernel_rfl)
    (of_decide_eq_true (by kernel_rfl)) (by unfold Func.isWrapper; first | (rw [if_pos (by decide +kernel)]; kernel_rfl) | (rw [if_neg (by decide +kernel)]; exact ⟨rfl, rfl⟩))
    (fun os started H enc _ => lifted os started H enc)
theorem proved : Rows.TallyZeroSaid := over
#print axioms proved
end Go.Proofs.Ytjjkabbncpalpaa.tallyZero
namespace Go.Proofs.Ytjjkabbncpalpaa
/-- The row, under a short name, for the claim. -/
theorem tallyZero_holds : Rows.TallyZeroSaid := tallyZero.proved
end Go.Proofs.Ytjjkabbncpalpaa
