/- The statement QuotaBound: for every input the call returns true, and each argument reads as before. No condition. -/
import Derived.Test.YtahkneobmekokaaRows
import Derived.Test.YtahkneobmekokaaBase
import Derived.Test.YtahkneobmekokaaQuotaQ
import Derived.WalkKit
import Derived.ProofKit
import Derived.OpenShut
import Derived.ShutString
import Derived.ChangeOld
import Derived.Below
import Derived.SizedLaws
import Derived.Carry
import Derived.Lib.SmallJoins
namespace Go.Proofs.Ytahkneobmekokaa.quotaBound
open Go.ChangeShapes Go.WideShapes Go.ChangeAt Go.RowKit Go.Joins Go.Proofs.Ytahkneobmekokaa.Sx
open Go.ChangeMaps (open_string shut_string)
set_option linter.unusedVariables false
theorem own : ownKnob Try.prog.godebug = none := by kernel_rfl
theorem laidOut : laidOutB Try.prog = true := by kernel_rfl
set_option maxRecDepth 100000 in
theorem lifted (os : Os) (started : os.Started) (H : Type) (enc : TypeId × Value → H) :
    ReturnsInHanded {} Try.checked os 4 .any (Rows.quotaBoundSpec.pre6 enc Try.prog Try.f4 Rows.quotaBoundRow.domain false) (Rows.quotaBoundSpec.post enc Try.prog Try.f4 false true false false) := by
  refine returnsInHanded_of_change_sized (C := Try.checked) own started (by kernel_rfl) Try.func4
    (ChangeSpec.witness6 (enc := enc) (C := Try.checked) false ⟨#[], #[.int .i64 0, .int .i64 0, .slice none 0 0], []⟩ 8 (by kernel_rfl) (by kernel_rfl) (by kernel_rfl) (by kernel_rfl)) ?_
  intro W base args ds gs before hval0 hW hcnd hsz0 _
  have hsz : (DataW.weightsEach Try.prog (Try.f4.params.toList ++ Rows.quotaBoundSpec.plain.varTypes Try.prog) (ds ++ gs)).all (· ≤ reachBytes) = true := hsz0
  have hval : ∀ (j : Nat) t v, Try.f4.params[j]? = some t → args[j]? = some v → Value.okWide Try.prog W .any base t v := hval0
  have hW' := hW
  obtain ⟨p, q, hA0, hV, rfl, hfz, hnd⟩ := hW
  have hA : DataW.TrodAll enc Try.prog W 0 (fun _ => true) true Try.f4.params.toList args.toList ds p := hA0
  rw [Try.params4] at hA hval hsz
  obtain ⟨v0, vs0, d0, ds0, p0, q0, hargs, rfl, rfl, h0, r0⟩ := trodAll_cons hA
  obtain ⟨v1, vs1, d1, ds1, p1, q1, rfl, rfl, rfl, h1, r1⟩ := trodAll_cons r0
  obtain ⟨v2, vs2, d2, ds2, p2, q2, rfl, rfl, rfl, h2, r2⟩ := trodAll_cons r1
  obtain ⟨rfl, rfl, rfl⟩ := trodAll_nil r2
  obtain rfl : args = #[v0, v1, v2] := by cases args; simp_all
  obtain ⟨rfl, rfl⟩ := trodVars_none hV
  obtain ⟨a0, rfl, rfl, rfl, w0⟩ := open_int Try.underlying3 (hval 0 3 v0 rfl rfl) h0
  have bd_a0 := bounds_i64 w0
  obtain ⟨a1, rfl, rfl, rfl, w1⟩ := open_int Try.underlying3 (hval 1 3 v1 rfl rfl) h1
  have bd_a1 := bounds_i64 w1
  have k2 := h2
  have lt2 : ∀ x ∈ p2, x.block < W.heap.size := by obtain ⟨m, hm⟩ := k2; exact DataW.trod_lt m _ _ _ hm
  obtain ⟨fu2, hf2⟩ := h2
  rw [show v2.cells.toList = [v2] by obtain ⟨_, _, _, hsv⟩ := okWide_slice Try.underlying22 (hval 2 22 v2 rfl rfl); subst hsv; rfl] at hf2
  obtain ⟨n2, cp2, b2, off2, D2, hD2, hc2, hv2, hl2⟩ := open_structs (p := p2) (k := .i64) (c := 4) Try.underlying22 Try.underlying33 (by kernel_rfl) (by decide) (fun j hj => match j, hj with
      | 0, _ => ⟨_, rfl, rfl, by kernel_rfl, Try.underlying3⟩
      | 1, _ => ⟨_, rfl, rfl, by kernel_rfl, Try.underlying3⟩
      | 2, _ => ⟨_, rfl, rfl, by kernel_rfl, Try.underlying3⟩
      | 3, _ => ⟨_, rfl, rfl, by kernel_rfl, Try.underlying3⟩
      | n + 4, h => absurd h (by omega)) (hval 2 22 v2 rfl rfl) (fun bb oo hm => hfz bb oo (by simp [hm])) hf2
  clear hA0 hval0 hsz0 hsz
  refine (calls_of1 (w := W) (b := b2) (z := (cp2 * 4, off2)) (us := #[.int .i64 a0, .int .i64 a1, v2]) (args := [.v (.int .i64 a0), .v (.int .i64 a1), .slc 0 0 n2 cp2 4]) bound_ok ⟨_, _, rfl, rfl, ⟨_, _, rfl, rfl, ⟨_, _, rfl, ⟨Nat.zero_lt_one, hc2, hv2.imp_right fun h => ⟨0, cp2, h, Nat.le_refl _, .inl rfl, by simp⟩⟩, rfl⟩⟩⟩ (hl2.elim (fun h => .inl ⟨by simp [h.1], h.2⟩) .inr) (fun K hK => by first | exact hK | exact ob_mk (by simp only [Bool.and_eq_true, decide_eq_true_eq]; omega) hK)).mono fun e W' ⟨he, bel⟩ => ?_
  subst he
  exact ⟨_, rfl, _, _, _, [], _, [], hW', trodAll_mk1 (shut_bool Try.underlying4 _), (trodAll_cons_mk (shut_int Try.underlying3 w0) (trodAll_cons_mk (shut_int Try.underlying3 w1) (trodAll_cons_mk (Below.trod laidOut (by kernel_rfl) (of_decide_eq_true (by kernel_rfl)) k2 bel lt2) trodAll_mk0))), rfl, bel.frame _, fun h => by cases h⟩
theorem over : Rows.quotaBoundRow.holds Try.pinned (OpenSpec.ofChange Rows.quotaBoundSpec) :=
  OpenClaim.holds_of_wide 4 Try.f4 rfl rfl rfl rfl rfl rfl rfl ⟨rfl, rfl, rfl, rfl, rfl⟩ rfl rfl rfl rfl rfl (by kernel_rfl) Try.func4 (by kernel_rfl)
    (of_decide_eq_true (by kernel_rfl)) (by unfold Func.isWrapper; first | (rw [if_pos (by decide +kernel)]; kernel_rfl) | (rw [if_neg (by decide +kernel)]; exact ⟨rfl, rfl⟩))
    (fun os started H enc _ => lifted os started H enc)
theorem proved : Rows.QuotaBoundSaid := over
#print axioms proved
end Go.Proofs.Ytahkneobmekokaa.quotaBound
namespace Go.Proofs.Ytahkneobmekokaa
/-- The row, under a short name, for the claim. -/
theorem quotaBound_holds : Rows.QuotaBoundSaid := quotaBound.proved
end Go.Proofs.Ytahkneobmekokaa
