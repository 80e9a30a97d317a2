/- The statement QuotaPrune: for every input the call returns true, and each argument reads as before. No condition. -/
import Derived.Test.YtahkneobmekokaaRows
import Derived.Test.YtahkneobmekokaaBase
import Derived.Test.YtahkneobmekokaaQuotaR
import Derived.WalkKit
import Derived.ProofKit
import Derived.OpenShut
import Derived.ShutString
import Derived.ChangeOld
import Derived.Below
import Derived.SizedLaws
import Derived.Carry
import Derived.Lib.SmallJoins
namespace Go.Proofs.Ytahkneobmekokaa.quotaPrune
open Go.ChangeShapes Go.WideShapes Go.ChangeAt Go.RowKit Go.Joins Go.Proofs.Ytahkneobmekokaa.Sx
open Go.ChangeMaps (open_string shut_string)
set_option linter.unusedVariables false
theorem own : ownKnob Try.prog.godebug = none := by kernel_rfl
theorem laidOut : laidOutB Try.prog = true := by kernel_rfl
set_option maxRecDepth 100000 in
theorem lifted (os : Os) (started : os.Started) (H : Type) (enc : TypeId × Value → H) :
    ReturnsInHanded {} Try.checked os 6 .any (Rows.quotaPruneSpec.pre6 enc Try.prog Try.f6 Rows.quotaPruneRow.domain false) (Rows.quotaPruneSpec.post enc Try.prog Try.f6 false true false false) := by
  refine returnsInHanded_of_change_sized (C := Try.checked) own started (by kernel_rfl) Try.func6
    (ChangeSpec.witness6 (enc := enc) (C := Try.checked) false ⟨#[], #[.slice none 0 0, .int .i64 0], []⟩ 8 (by kernel_rfl) (by kernel_rfl) (by kernel_rfl) (by kernel_rfl)) ?_
  intro W base args ds gs before hval0 hW hcnd hsz0 _
  have hsz : (DataW.weightsEach Try.prog (Try.f6.params.toList ++ Rows.quotaPruneSpec.plain.varTypes Try.prog) (ds ++ gs)).all (· ≤ reachBytes) = true := hsz0
  have hval : ∀ (j : Nat) t v, Try.f6.params[j]? = some t → args[j]? = some v → Value.okWide Try.prog W .any base t v := hval0
  have hW' := hW
  obtain ⟨p, q, hA0, hV, rfl, hfz, hnd⟩ := hW
  have hA : DataW.TrodAll enc Try.prog W 0 (fun _ => true) true Try.f6.params.toList args.toList ds p := hA0
  rw [Try.params6] at hA hval hsz
  obtain ⟨v0, vs0, d0, ds0, p0, q0, hargs, rfl, rfl, h0, r0⟩ := trodAll_cons hA
  obtain ⟨v1, vs1, d1, ds1, p1, q1, rfl, rfl, rfl, h1, r1⟩ := trodAll_cons r0
  obtain ⟨rfl, rfl, rfl⟩ := trodAll_nil r1
  obtain rfl : args = #[v0, v1] := by cases args; simp_all
  obtain ⟨rfl, rfl⟩ := trodVars_none hV
  have k0 := h0
  have lt0 : ∀ x ∈ p0, x.block < W.heap.size := by obtain ⟨m, hm⟩ := k0; exact DataW.trod_lt m _ _ _ hm
  obtain ⟨fu0, hf0⟩ := h0
  rw [show v0.cells.toList = [v0] by obtain ⟨_, _, _, hsv⟩ := okWide_slice Try.underlying22 (hval 0 22 v0 rfl rfl); subst hsv; rfl] at hf0
  obtain ⟨n0, cp0, b0, off0, D0, hD0, hc0, hv0, hl0⟩ := open_structs (p := p0) (k := .i64) (c := 4) Try.underlying22 Try.underlying33 (by kernel_rfl) (by decide) (fun j hj => match j, hj with
      | 0, _ => ⟨_, rfl, rfl, by kernel_rfl, Try.underlying3⟩
      | 1, _ => ⟨_, rfl, rfl, by kernel_rfl, Try.underlying3⟩
      | 2, _ => ⟨_, rfl, rfl, by kernel_rfl, Try.underlying3⟩
      | 3, _ => ⟨_, rfl, rfl, by kernel_rfl, Try.underlying3⟩
      | n + 4, h => absurd h (by omega)) (hval 0 22 v0 rfl rfl) (fun bb oo hm => hfz bb oo (by simp [hm])) hf0
  obtain ⟨a1, rfl, rfl, rfl, w1⟩ := open_int Try.underlying3 (hval 1 3 v1 rfl rfl) h1
  have bd_a1 := bounds_i64 w1
  clear hA0 hval0 hsz0 hsz
  refine (calls_of1 (w := W) (b := b0) (z := (cp0 * 4, off0)) (us := #[v0, .int .i64 a1]) (args := [.slc 0 0 n0 cp0 4, .v (.int .i64 a1)]) prune_ok ⟨_, _, rfl, ⟨Nat.zero_lt_one, hc0, hv0.imp_right fun h => ⟨0, cp0, h, Nat.le_refl _, .inl rfl, by simp⟩⟩, ⟨_, _, rfl, rfl, rfl⟩⟩ (hl0.elim (fun h => .inl ⟨by simp [h.1], h.2⟩) .inr) (fun K hK => by first | exact hK | exact ob_mk (by simp only [Bool.and_eq_true, decide_eq_true_eq]; omega) hK)).mono fun e W' ⟨he, bel⟩ => ?_
  subst he
  exact ⟨_, rfl, _, _, _, [], _, [], hW', trodAll_mk1 (shut_bool Try.underlying4 _), (trodAll_cons_mk (Below.trod laidOut (by kernel_rfl) (of_decide_eq_true (by kernel_rfl)) k0 bel lt0) (trodAll_cons_mk (shut_int Try.underlying3 w1) trodAll_mk0)), rfl, bel.frame _, fun h => by cases h⟩
theorem over : Rows.quotaPruneRow.holds Try.pinned (OpenSpec.ofChange Rows.quotaPruneSpec) :=
  OpenClaim.holds_of_wide 6 Try.f6 rfl rfl rfl rfl rfl rfl rfl ⟨rfl, rfl, rfl, rfl, rfl⟩ rfl rfl rfl rfl rfl (by kernel_rfl) Try.func6 (by kernel_rfl)
    (of_decide_eq_true (by kernel_rfl)) (by unfold Func.isWrapper; first | (rw [if_pos (by decide +kernel)]; kernel_rfl) | (rw [if_neg (by decide +kernel)]; exact ⟨rfl, rfl⟩))
    (fun os started H enc _ => lifted os started H enc)
theorem proved : Rows.QuotaPruneSaid := over
#print axioms proved
end Go.Proofs.Ytahkneobmekokaa.quotaPrune
namespace Go.Proofs.Ytahkneobmekokaa
/-- The row, under a short name, for the claim. -/
theorem quotaPrune_holds : Rows.QuotaPruneSaid := quotaPrune.proved
end Go.Proofs.Ytahkneobmekokaa
