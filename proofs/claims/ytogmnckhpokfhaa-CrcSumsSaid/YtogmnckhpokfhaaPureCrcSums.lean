/- Of any text, behind any sum, the checksum is the reference's; no condition on the input. -/
import Derived.Test.YtogmnckhpokfhaaRefCrcSums
namespace Go.Proofs.Ytogmnckhpokfhaa.Pure
open Go Go.RowKit Go.Proofs.Ytogmnckhpokfhaa.PCrcSums Go.Proofs.YtogmnckhpokfhaaW.PrintWords Go.Proofs.YtogmnckhpokfhaaW.PrintLast Go.Proofs.Ytogmnckhpokfhaa.CrcMath Go.Proofs.Ytogmnckhpokfhaa.RunCrcSums

theorem CrcSums : comitialaw01_CrcSums.Pure := by
  intro sum s t hsum hs ht
  simp only [Lit.wf, Bool.and_eq_true, decide_eq_true_eq] at hsum
  obtain ⟨c, rfl⟩ := e_of (n := sum) hsum.1 (by have := hsum.2; simp [IntKind.max, IntKind.bits, IntKind.signed] at this; omega)
  refine ⟨24 * s.size + 300, ?_⟩
  have hs' : s.size ≤ 281474976710656 := by omega
  unfold comitialaw01_CrcSums.f
  rw [examples_ok _ (by omega)]
  simp only [Option.bind_some, if_true]
  rw [ref_sum_ok s hs' _ (by omega), sum_ok s hs' _ (by omega)]
  simp only [Option.bind_some, if_true]
  rw [add_ok s hs' _ (by omega), ref_add_ok s hs' _ (by omega)]
  simp only [Option.bind_some, if_true]
  rw [check_ok s hs' _ (by omega), check_ok s hs' _ (by omega)]
  simp only [Option.bind_some]
  rw [if_pos (by rw [Bool.beq_comm (a := t)]; simp)]
  simp
end Go.Proofs.Ytogmnckhpokfhaa.Pure
