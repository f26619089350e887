/- The row of JudgeTells, by its run at the plain level. -/
import Derived.Test.YtehkfdicaiehcaaRows
import Derived.Test.YtehkfdicaiehcaaJudge14
import Derived.Test.YtehkfdicaiehcaaNvLaw
import Derived.WalkKit
import Derived.ProofKit
import Derived.OpenShut
import Derived.ShutString
import Derived.ChangeOld
import Derived.Below
import Derived.LaidSub
namespace Go.Proofs.Ytehkfdicaiehcaa.judgeTells
open Go Go.ChangeShapes Go.WideShapes Go.ChangeAt Go.RowKit Go.Proofs.Ytehkfdicaiehcaa.Nv
open Go.ChangeMaps (open_string shut_string)
set_option linter.unusedVariables false
theorem own : ownKnob Try.prog.godebug = none := by kernel_rfl
theorem mixed : Try.prog.follows .mixedOrders = true := by kernel_rfl
theorem laidOut : laidOutB Try.prog = true := by kernel_rfl
set_option maxRecDepth 100000 in
theorem lifted (os : Os) (started : os.Started) (H : Type) (enc : TypeId × Value → H) :
    ReturnsInHanded {} Try.checked os 3 .any (Rows.judgeTellsSpec.pre6 enc Try.prog Try.f3 Rows.judgeTellsRow.domain false) (Rows.judgeTellsSpec.post enc Try.prog Try.f3 false true false false) := by
  refine returnsInHanded_of_change_sized (C := Try.checked) own started (by kernel_rfl) Try.func3
    (ChangeSpec.witness6 (enc := enc) (C := Try.checked) false ⟨#[], #[.slice none 0 0, .slice none 0 0, .int .u8 0, .slice none 0 0], []⟩ 12 (by kernel_rfl) (by kernel_rfl) (by kernel_rfl) (by kernel_rfl)) ?_
  intro W base args ds gs before hval0 hW hcnd hsz0 _
  have hsz : (DataW.weightsEach Try.prog (Try.f3.params.toList ++ Rows.judgeTellsSpec.plain.varTypes Try.prog) (ds ++ gs)).all (· ≤ reachBytes) = true := hsz0
  have hval : ∀ (j : Nat) t v, Try.f3.params[j]? = some t → args[j]? = some v → Value.okWide Try.prog W .any base t v := hval0
  have hW' := hW
  obtain ⟨p, q, hA0, hV, rfl, hfz, hnd⟩ := hW
  have hA : DataW.TrodAll enc Try.prog W 0 (fun _ => true) true Try.f3.params.toList args.toList ds p := hA0
  rw [Try.params3] at hA hval hsz
  obtain ⟨v0, vs0, d0, ds0, p0, q0, hargs, rfl, rfl, h0, r0⟩ := trodAll_cons hA
  obtain ⟨v1, vs1, d1, ds1, p1, q1, rfl, rfl, rfl, h1, r1⟩ := trodAll_cons r0
  obtain ⟨v2, vs2, d2, ds2, p2, q2, rfl, rfl, rfl, h2, r2⟩ := trodAll_cons r1
  obtain ⟨v3, vs3, d3, ds3, p3, q3, rfl, rfl, rfl, h3, r3⟩ := trodAll_cons r2
  obtain ⟨rfl, rfl, rfl⟩ := trodAll_nil r3
  obtain rfl : args = #[v0, v1, v2, v3] := by cases args; simp_all
  obtain ⟨rfl, rfl⟩ := trodVars_none hV
  have lt0 := nplaces_lt h0
  obtain ⟨sa0, sl0, sc0, rfl⟩ := okWide_slice Try.underlying22 (hval 0 22 v0 rfl rfl)
  obtain ⟨a0, k0, g0⟩ := narg_one rfl h0 (nsized_all hsz (j := 0) (t := 22) rfl rfl) (ntells_one (ntells_slice (e := 39) (B := 64) (sz := 6) Try.underlying22 (by kernel_rfl) (by decide) (by kernel_rfl) (ntells_struct (n := 6) Try.underlying39 rfl (by kernel_rfl) (ntells_cons (k := 5) (ntells_struct (n := 5) Try.underlying31 rfl (by kernel_rfl) (ntells_cons (k := 1) (ntells_int Try.underlying3) (by kernel_rfl) (ntells_cons (k := 1) (ntells_int Try.underlying3) (by kernel_rfl) (ntells_cons (k := 1) (ntells_int Try.underlying29) (by kernel_rfl) (ntells_cons (k := 1) (ntells_string Try.underlying9) (by kernel_rfl) (ntells_cons (k := 1) (ntells_string Try.underlying9) (by kernel_rfl) ntells_nil)))))) (by kernel_rfl) (ntells_cons (k := 1) (ntells_bool Try.underlying4) (by kernel_rfl) ntells_nil)))))
  have lt1 := nplaces_lt h1
  obtain ⟨sa1, sl1, sc1, rfl⟩ := okWide_slice Try.underlying22 (hval 1 22 v1 rfl rfl)
  obtain ⟨a1, k1, g1⟩ := narg_one rfl h1 (nsized_all hsz (j := 1) (t := 22) rfl rfl) (ntells_one (ntells_slice (e := 39) (B := 64) (sz := 6) Try.underlying22 (by kernel_rfl) (by decide) (by kernel_rfl) (ntells_struct (n := 6) Try.underlying39 rfl (by kernel_rfl) (ntells_cons (k := 5) (ntells_struct (n := 5) Try.underlying31 rfl (by kernel_rfl) (ntells_cons (k := 1) (ntells_int Try.underlying3) (by kernel_rfl) (ntells_cons (k := 1) (ntells_int Try.underlying3) (by kernel_rfl) (ntells_cons (k := 1) (ntells_int Try.underlying29) (by kernel_rfl) (ntells_cons (k := 1) (ntells_string Try.underlying9) (by kernel_rfl) (ntells_cons (k := 1) (ntells_string Try.underlying9) (by kernel_rfl) ntells_nil)))))) (by kernel_rfl) (ntells_cons (k := 1) (ntells_bool Try.underlying4) (by kernel_rfl) ntells_nil)))))
  obtain ⟨a2, rfl, rfl, rfl, g2⟩ := open_int Try.underlying5 (hval 2 5 v2 rfl rfl) h2
  have lt3 := nplaces_lt h3
  obtain ⟨sa3, sl3, sc3, rfl⟩ := okWide_slice Try.underlying23 (hval 3 23 v3 rfl rfl)
  obtain ⟨a3, k3, g3⟩ := narg_one rfl h3 (nsized_all hsz (j := 3) (t := 23) rfl rfl) (ntells_one (ntells_slice (e := 41) (B := 112) (sz := 12) Try.underlying23 (by kernel_rfl) (by decide) (by kernel_rfl) (ntells_struct (n := 12) Try.underlying41 rfl (by kernel_rfl) (ntells_cons (k := 1) (ntells_int Try.underlying3) (by kernel_rfl) (ntells_cons (k := 6) (ntells_struct (n := 6) Try.underlying39 rfl (by kernel_rfl) (ntells_cons (k := 5) (ntells_struct (n := 5) Try.underlying31 rfl (by kernel_rfl) (ntells_cons (k := 1) (ntells_int Try.underlying3) (by kernel_rfl) (ntells_cons (k := 1) (ntells_int Try.underlying3) (by kernel_rfl) (ntells_cons (k := 1) (ntells_int Try.underlying29) (by kernel_rfl) (ntells_cons (k := 1) (ntells_string Try.underlying9) (by kernel_rfl) (ntells_cons (k := 1) (ntells_string Try.underlying9) (by kernel_rfl) ntells_nil)))))) (by kernel_rfl) (ntells_cons (k := 1) (ntells_bool Try.underlying4) (by kernel_rfl) ntells_nil))) (by kernel_rfl) (ntells_cons (k := 4) (ntells_struct (n := 4) Try.underlying35 rfl (by kernel_rfl) (ntells_cons (k := 1) (ntells_int Try.underlying3) (by kernel_rfl) (ntells_cons (k := 1) (ntells_int Try.underlying29) (by kernel_rfl) (ntells_cons (k := 1) (ntells_bool Try.underlying4) (by kernel_rfl) (ntells_cons (k := 1) (ntells_string Try.underlying9) (by kernel_rfl) ntells_nil))))) (by kernel_rfl) (ntells_cons (k := 1) (ntells_bool Try.underlying4) (by kernel_rfl) ntells_nil)))))))
  clear hA0 hval0 hsz0 hsz
  obtain ⟨x0, rfl, wx0, kx0⟩ := g0
  obtain ⟨x1, rfl, wx1, kx1⟩ := g1
  have b2 : (0 : Int) ≤ a2 ∧ a2 ≤ 255 := wf_int g2
  obtain ⟨x3, rfl, wx3, kx3⟩ := g3
  refine (law_calls mixed F_ok (fun _ _ _ h => h.elim) (law3w x0 x1 a2 x3 wx0 kx0 wx1 kx1 b2 wx3 kx3) (.cons k0 (.cons k1 (.cons (R.int .u8 a2) (.cons k3 .nil))))).mono fun e W' ⟨he, bel0⟩ => ?_
  have bel : Below W.heap.size W W' := bel0
  subst he
  exact ⟨_, rfl, _, _, _, [], _, [], hW', trodAll_mk1 (shut_bool Try.underlying4 _), (trodAll_cons_mk (Below.trod laidOut (by kernel_rfl) (of_decide_eq_true (by kernel_rfl)) h0 bel lt0) (trodAll_cons_mk (Below.trod laidOut (by kernel_rfl) (of_decide_eq_true (by kernel_rfl)) h1 bel lt1) (trodAll_cons_mk (shut_int Try.underlying5 g2) (trodAll_cons_mk (Below.trod laidOut (by kernel_rfl) (of_decide_eq_true (by kernel_rfl)) h3 bel lt3) trodAll_mk0)))), rfl, bel.frame _, fun h => by cases h⟩
theorem over : Rows.judgeTellsRow.holds Try.pinned (OpenSpec.ofChange Rows.judgeTellsSpec) :=
  OpenClaim.holds_of_wide 3 Try.f3 rfl rfl rfl rfl rfl rfl rfl ⟨rfl, rfl, rfl, rfl, rfl⟩ rfl rfl rfl rfl rfl (by kernel_rfl) Try.func3 (by kernel_rfl)
    (of_decide_eq_true (by kernel_rfl)) (by unfold Func.isWrapper; first | (rw [if_pos (by decide +kernel)]; kernel_rfl) | (rw [if_neg (by decide +kernel)]; exact ⟨rfl, rfl⟩))
    (fun os started H enc _ => lifted os started H enc)
theorem proved : Rows.JudgeTellsSaid := over
#print axioms proved
end Go.Proofs.Ytehkfdicaiehcaa.judgeTells
namespace Go.Proofs.Ytehkfdicaiehcaa
/-- The row, under a short name, for the claim. -/
theorem judgeTells_holds : Rows.JudgeTellsSaid := judgeTells.proved
end Go.Proofs.Ytehkfdicaiehcaa
