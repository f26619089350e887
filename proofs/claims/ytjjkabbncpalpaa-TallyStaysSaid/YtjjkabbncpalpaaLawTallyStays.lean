/- The row of TallyStays, by its run at the plain level. -/
import Derived.Test.YtjjkabbncpalpaaRows
import Derived.Test.YtjjkabbncpalpaaTally8
import Derived.Test.YtjjkabbncpalpaaNvLaw
import Derived.WalkKit
import Derived.ProofKit
import Derived.OpenShut
import Derived.ShutString
import Derived.ChangeOld
import Derived.Below
import Derived.LaidSub
namespace Go.Proofs.Ytjjkabbncpalpaa.tallyStays
open Go Go.ChangeShapes Go.WideShapes Go.ChangeAt Go.RowKit Go.Proofs.Ytjjkabbncpalpaa.Nv
open Go.ChangeMaps (open_string shut_string)
set_option linter.unusedVariables false
theorem own : ownKnob Try.prog.godebug = none := by kernel_rfl
theorem mixed : Try.prog.follows .mixedOrders = true := by kernel_rfl
theorem laidOut : laidOutB Try.prog = true := by kernel_rfl
set_option maxRecDepth 100000 in
theorem lifted (os : Os) (started : os.Started) (H : Type) (enc : TypeId × Value → H) :
    ReturnsInHanded {} Try.checked os 4 .any (Rows.tallyStaysSpec.pre6 enc Try.prog Try.f4 Rows.tallyStaysRow.domain false) (Rows.tallyStaysSpec.post enc Try.prog Try.f4 false true false false) := by
  refine returnsInHanded_of_change_sized (C := Try.checked) own started (by kernel_rfl) Try.func4
    (ChangeSpec.witness6 (enc := enc) (C := Try.checked) false ⟨#[], #[.int .u8 0, .agg #[.int .u32 0, .slice none 0 0, .bool false, .slice none 0 0], .slice none 0 0], []⟩ 12 (by kernel_rfl) (by kernel_rfl) (by kernel_rfl) (by kernel_rfl)) ?_
  intro W base args ds gs before hval0 hW hcnd hsz0 _
  have hsz : (DataW.weightsEach Try.prog (Try.f4.params.toList ++ Rows.tallyStaysSpec.plain.varTypes Try.prog) (ds ++ gs)).all (· ≤ reachBytes) = true := hsz0
  have hval : ∀ (j : Nat) t v, Try.f4.params[j]? = some t → args[j]? = some v → Value.okWide Try.prog W .any base t v := hval0
  have hW' := hW
  obtain ⟨p, q, hA0, hV, rfl, hfz, hnd⟩ := hW
  have hA : DataW.TrodAll enc Try.prog W 0 (fun _ => true) true Try.f4.params.toList args.toList ds p := hA0
  rw [Try.params4] at hA hval hsz
  obtain ⟨v0, vs0, d0, ds0, p0, q0, hargs, rfl, rfl, h0, r0⟩ := trodAll_cons hA
  obtain ⟨v1, vs1, d1, ds1, p1, q1, rfl, rfl, rfl, h1, r1⟩ := trodAll_cons r0
  obtain ⟨v2, vs2, d2, ds2, p2, q2, rfl, rfl, rfl, h2, r2⟩ := trodAll_cons r1
  obtain ⟨rfl, rfl, rfl⟩ := trodAll_nil r2
  obtain rfl : args = #[v0, v1, v2] := by cases args; simp_all
  obtain ⟨rfl, rfl⟩ := trodVars_none hV
  obtain ⟨a0, rfl, rfl, rfl, g0⟩ := open_int Try.underlying5 (hval 0 5 v0 rfl rfl) h0
  have lt1 := nplaces_lt h1
  obtain ⟨a1, k1, g1⟩ := narg_struct Try.underlying28 (hval 1 28 v1 rfl rfl) h1 (nsized_all hsz (j := 1) (t := 28) rfl rfl) (ntells_struct (n := 4) Try.underlying28 rfl (by kernel_rfl) (ntells_cons (k := 2) (ntells_struct (n := 2) Try.underlying25 rfl (by kernel_rfl) (ntells_cons (k := 1) (ntells_int Try.underlying22) (by kernel_rfl) (ntells_cons (k := 1) (ntells_slice (e := 62) (B := 16) (sz := 2) Try.underlying23 (by kernel_rfl) (by decide) (by kernel_rfl) (ntells_struct (n := 2) Try.underlying62 rfl (by kernel_rfl) (ntells_cons (k := 1) (ntells_int Try.underlying3) (by kernel_rfl) (ntells_cons (k := 1) (ntells_int Try.underlying3) (by kernel_rfl) ntells_nil)))) (by kernel_rfl) ntells_nil))) (by kernel_rfl) (ntells_cons (k := 1) (ntells_bool Try.underlying4) (by kernel_rfl) (ntells_cons (k := 1) (ntells_slice (e := 5) (B := 1) (sz := 1) Try.underlying26 (by kernel_rfl) (by decide) (by kernel_rfl) (ntells_int Try.underlying5)) (by kernel_rfl) ntells_nil))))
  have lt2 := nplaces_lt h2
  obtain ⟨sa2, sl2, sc2, rfl⟩ := okWide_slice Try.underlying29 (hval 2 29 v2 rfl rfl)
  obtain ⟨a2, k2, g2⟩ := narg_one rfl h2 (nsized_all hsz (j := 2) (t := 29) rfl rfl) (ntells_one (ntells_slice (e := 41) (B := 88) (sz := 9) Try.underlying29 (by kernel_rfl) (by decide) (by kernel_rfl) (ntells_struct (n := 9) Try.underlying41 rfl (by kernel_rfl) (ntells_cons (k := 1) (ntells_bool Try.underlying4) (by kernel_rfl) (ntells_cons (k := 1) (ntells_int Try.underlying3) (by kernel_rfl) (ntells_cons (k := 4) (ntells_struct (n := 4) Try.underlying28 rfl (by kernel_rfl) (ntells_cons (k := 2) (ntells_struct (n := 2) Try.underlying25 rfl (by kernel_rfl) (ntells_cons (k := 1) (ntells_int Try.underlying22) (by kernel_rfl) (ntells_cons (k := 1) (ntells_slice (e := 62) (B := 16) (sz := 2) Try.underlying23 (by kernel_rfl) (by decide) (by kernel_rfl) (ntells_struct (n := 2) Try.underlying62 rfl (by kernel_rfl) (ntells_cons (k := 1) (ntells_int Try.underlying3) (by kernel_rfl) (ntells_cons (k := 1) (ntells_int Try.underlying3) (by kernel_rfl) ntells_nil)))) (by kernel_rfl) ntells_nil))) (by kernel_rfl) (ntells_cons (k := 1) (ntells_bool Try.underlying4) (by kernel_rfl) (ntells_cons (k := 1) (ntells_slice (e := 5) (B := 1) (sz := 1) Try.underlying26 (by kernel_rfl) (by decide) (by kernel_rfl) (ntells_int Try.underlying5)) (by kernel_rfl) ntells_nil)))) (by kernel_rfl) (ntells_cons (k := 1) (ntells_bool Try.underlying4) (by kernel_rfl) (ntells_cons (k := 1) (ntells_bool Try.underlying4) (by kernel_rfl) (ntells_cons (k := 1) (ntells_bool Try.underlying4) (by kernel_rfl) ntells_nil)))))))))
  clear hA0 hval0 hsz0 hsz
  have b0 : (0 : Int) ≤ a0 ∧ a0 ≤ 255 := wf_int g0
  obtain ⟨_, _, rfl, ⟨_, _, rfl, ⟨x1_0_0, rfl, wx1_0_0⟩, ⟨_, _, rfl, ⟨x1_0_1, rfl, wx1_0_1, kx1_0_1⟩, rfl⟩⟩, ⟨_, _, rfl, ⟨x1_1, rfl⟩, ⟨_, _, rfl, ⟨x1_2, rfl, wx1_2, kx1_2⟩, rfl⟩⟩⟩ := g1
  have bx1_0_0 : (0 : Int) ≤ x1_0_0 ∧ x1_0_0 ≤ 4294967295 := wf_int wx1_0_0
  obtain ⟨x2, rfl, wx2, kx2⟩ := g2
  refine (law_calls mixed F_ok (fun _ _ _ h => h.elim) (lawStays a0 x1_0_0 x1_0_1 x1_1 x1_2 x2 b0 bx1_0_0 wx1_0_1 kx1_0_1 wx1_2 kx1_2 wx2 kx2) (.cons (R.int .u8 a0) (.cons k1 (.cons k2 .nil)))).mono fun e W' ⟨he, bel0⟩ => ?_
  have bel : Below W.heap.size W W' := bel0
  subst he
  exact ⟨_, rfl, _, _, _, [], _, [], hW', trodAll_mk1 (shut_bool Try.underlying4 _), (trodAll_cons_mk (shut_int Try.underlying5 g0) (trodAll_cons_mk (Below.trod laidOut (by kernel_rfl) (of_decide_eq_true (by kernel_rfl)) h1 bel lt1) (trodAll_cons_mk (Below.trod laidOut (by kernel_rfl) (of_decide_eq_true (by kernel_rfl)) h2 bel lt2) trodAll_mk0))), rfl, bel.frame _, fun h => by cases h⟩
theorem over : Rows.tallyStaysRow.holds Try.pinned (OpenSpec.ofChange Rows.tallyStaysSpec) :=
  OpenClaim.holds_of_wide 4 Try.f4 rfl rfl rfl rfl rfl rfl rfl ⟨rfl, rfl, rfl, rfl, rfl⟩ rfl rfl rfl rfl rfl (by kernel_rfl) Try.func4 (by kernel_rfl)
    (of_decide_eq_true (by kernel_rfl)) (by unfold Func.isWrapper; first | (rw [if_pos (by decide +kernel)]; kernel_rfl) | (rw [if_neg (by decide +kernel)]; exact ⟨rfl, rfl⟩))
    (fun os started H enc _ => lifted os started H enc)
theorem proved : Rows.TallyStaysSaid := over
#print axioms proved
end Go.Proofs.Ytjjkabbncpalpaa.tallyStays
namespace Go.Proofs.Ytjjkabbncpalpaa
/-- The row, under a short name, for the claim. -/
theorem tallyStays_holds : Rows.TallyStaysSaid := tallyStays.proved
end Go.Proofs.Ytjjkabbncpalpaa
