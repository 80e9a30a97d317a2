/- The statement TopLinks: for every input the call returns true, and each argument reads as before. No condition. -/
import Derived.Test.YtpdkchpjekglaaaGreatRows
import Derived.Test.YtpdkchpjekglaaaGreatSlc2
import Derived.Test.YtpdkchpjekglaaaGreatMI
import Derived.WalkKit
import Derived.ProofKit
import Derived.OpenShut
import Derived.ShutString
import Derived.ChangeOld
import Derived.Below
import Derived.SizedLaws
import Derived.Carry
import Derived.Lib.SmallJoins
namespace Go.Proofs.YtpdkchpjekglaaaGreat.topLinks
open Go.ChangeShapes Go.WideShapes Go.ChangeAt Go.RowKit Go.Joins Go.Proofs.YtpdkchpjekglaaaGreat.Sx
set_option linter.unusedVariables false
theorem own : ownKnob Tryz.prog.godebug = none := by kernel_rfl
theorem laidOut : laidOutB Tryz.prog = true := by kernel_rfl
set_option maxRecDepth 100000 in
theorem lifted (os : Os) (started : os.Started) (H : Type) (enc : TypeId × Value → H) :
    ReturnsInHanded {} Tryz.checked os 3 .any (Rows.topLinksSpec.pre6 enc Tryz.prog Tryz.f3 Rows.topLinksRow.domain false) (Rows.topLinksSpec.post enc Tryz.prog Tryz.f3 false true false false) := by
  refine returnsInHanded_of_change_sized (C := Tryz.checked) own started (by kernel_rfl) Tryz.func3
    (ChangeSpec.witness6 (enc := enc) (C := Tryz.checked) false ⟨#[], #[.slice none 0 0, .slice none 0 0], []⟩ 8 (by kernel_rfl) (by kernel_rfl) (by kernel_rfl) (by kernel_rfl)) ?_
  intro W base args ds gs before hval0 hW hcnd hsz0 _
  have hsz : (DataW.weightsEach Tryz.prog (Tryz.f3.params.toList ++ Rows.topLinksSpec.plain.varTypes Tryz.prog) (ds ++ gs)).all (· ≤ reachBytes) = true := hsz0
  have hval : ∀ (j : Nat) t v, Tryz.f3.params[j]? = some t → args[j]? = some v → Value.okWide Tryz.prog W .any base t v := hval0
  have hW' := hW
  obtain ⟨p, q, hA0, hV, rfl, hfz, hnd⟩ := hW
  have hA : DataW.TrodAll enc Tryz.prog W 0 (fun _ => true) true Tryz.f3.params.toList args.toList ds p := hA0
  rw [Tryz.params3] at hA hval hsz
  obtain ⟨v0, vs0, d0, ds0, p0, q0, hargs, rfl, rfl, h0, r0⟩ := trodAll_cons hA
  obtain ⟨v1, vs1, d1, ds1, p1, q1, rfl, rfl, rfl, h1, r1⟩ := trodAll_cons r0
  obtain ⟨rfl, rfl, rfl⟩ := trodAll_nil r1
  obtain rfl : args = #[v0, v1] := by cases args; simp_all
  obtain ⟨rfl, rfl⟩ := trodVars_none hV
  have k0 := h0
  have k1 := h1
  have lt0 : ∀ x ∈ p0, x.block < W.heap.size := by obtain ⟨m, hm⟩ := k0; exact DataW.trod_lt m _ _ _ hm
  have lt1 : ∀ x ∈ p1, x.block < W.heap.size := by obtain ⟨m, hm⟩ := k1; exact DataW.trod_lt m _ _ _ hm
  obtain ⟨fu0, hf0⟩ := h0
  obtain ⟨fu1, hf1⟩ := h1
  rw [show v0.cells.toList = [v0] by obtain ⟨_, _, _, hsv⟩ := okWide_slice Tryz.underlying22 (hval 0 22 v0 rfl rfl); subst hsv; rfl] at hf0
  rw [show v1.cells.toList = [v1] by obtain ⟨_, _, _, hsv⟩ := okWide_slice Tryz.underlying23 (hval 1 23 v1 rfl rfl); subst hsv; rfl] at hf1
  obtain ⟨r, cp0, b0, off0, hc0, hv0, hl0, hz0⟩ := open_reqs (u := 33) (p := p0) Tryz.underlying22 Tryz.underlying35 Tryz.underlying33 (by kernel_rfl) (by kernel_rfl) ⟨rfl, by kernel_rfl, Tryz.underlying3⟩ ⟨rfl, by kernel_rfl, Tryz.underlying3⟩ ⟨rfl, rfl⟩
    ⟨rfl, by kernel_rfl, Tryz.underlying3⟩ ⟨rfl, by kernel_rfl, Tryz.underlying3⟩ ⟨rfl, by kernel_rfl, Tryz.underlying9⟩ ⟨rfl, by kernel_rfl, Tryz.underlying9⟩ (hval 0 22 v0 rfl rfl) (fun bb oo hm => hfz bb oo (by simp [hm]))
    (fun n hn => by have := List.all_eq_true.1 hsz _ (DataW.weights_mem_each (j := 0) rfl rfl n hn); simpa using this) hf0
  obtain ⟨n1, cp1, b1, off1, f1, hc1, hv1, hl1⟩ := open_nums (p := p1) Tryz.underlying23 Tryz.underlying3 (by kernel_rfl) (hval 1 23 v1 rfl rfl) (fun bb oo hm => hfz bb oo (by simp [hm])) hf1
  clear hA0 hval0 hsz0 hsz
  refine (calls_of2 (w := W) (b0 := b0) (b1 := b1) (x := (cp0 * 6, off0)) (y := (cp1 * 1, off1)) (us := #[v0, v1]) (args := [.slc 0 0 r.n cp0 6, .slc 1 0 n1 cp1 1]) links_ok
    ⟨_, _, rfl, ⟨by decide, hc0, hv0.imp_right fun h => ⟨0, cp0, h, Nat.le_refl _, .inl rfl, by simp [z2]⟩⟩, ⟨_, _, rfl, ⟨by decide, hc1, hv1.imp_right fun h => ⟨0, cp1, h, Nat.le_refl _, .inl rfl, by simp [z2]⟩⟩, rfl⟩⟩
    (hl0.elim (fun h => .inl ⟨by simp [h.1], h.2⟩) .inr) (hl1.elim (fun h => .inl ⟨by simp [h.1], h.2⟩) .inr) (fun K hK => ⟨r, n1, cp0, cp1, f1, rfl, rfl, ⟨hc0, hc1, hz0⟩, hK⟩)).mono fun e W' ⟨he, bel⟩ => ?_
  subst he
  exact ⟨_, rfl, _, _, _, [], _, [], hW', trodAll_mk1 (shut_bool Tryz.underlying4 _), (trodAll_cons_mk (Below.trod laidOut (by kernel_rfl) (of_decide_eq_true (by kernel_rfl)) k0 bel lt0) (trodAll_cons_mk (Below.trod laidOut (by kernel_rfl) (of_decide_eq_true (by kernel_rfl)) k1 bel lt1) trodAll_mk0)), rfl, bel.frame _, fun h => by cases h⟩
theorem over : Rows.topLinksRow.holds Tryz.pinned (OpenSpec.ofChange Rows.topLinksSpec) :=
  OpenClaim.holds_of_wide 3 Tryz.f3 rfl rfl rfl rfl rfl rfl rfl ⟨rfl, rfl, rfl, rfl, rfl⟩ rfl rfl rfl rfl rfl (by kernel_rfl) Tryz.func3 (by kernel_rfl)
    (of_decide_eq_true (by kernel_rfl)) (by unfold Func.isWrapper; first | (rw [if_pos (by decide +kernel)]; kernel_rfl) | (rw [if_neg (by decide +kernel)]; exact ⟨rfl, rfl⟩))
    (fun os started H enc _ => lifted os started H enc)
theorem proved : Rows.TopLinksSaid := over
#print axioms proved
end Go.Proofs.YtpdkchpjekglaaaGreat.topLinks
namespace Go.Proofs.YtpdkchpjekglaaaGreat
/-- The row, under a short name, for the claim. -/
theorem topLinks_holds : Rows.TopLinksSaid := topLinks.proved
end Go.Proofs.YtpdkchpjekglaaaGreat
