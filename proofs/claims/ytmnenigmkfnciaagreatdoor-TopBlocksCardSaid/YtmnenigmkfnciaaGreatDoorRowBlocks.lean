/- The statement TopBlocks: for every input the call returns true, and each argument reads as before. No condition. -/
import Derived.Test.YtmnenigmkfnciaaGreatDoorRows
import Derived.Test.YtmnenigmkfnciaaGreatDoorSlc3
import Derived.Test.YtmnenigmkfnciaaGreatDoorTpe
import Derived.WalkKit
import Derived.ProofKit
import Derived.LaidMore
import Derived.OpenShut
import Derived.ShutString
import Derived.ChangeOld
import Derived.Below
import Derived.SizedLaws
import Derived.Carry
import Derived.Lib.SmallJoins
import Derived.Stop.Joined
import Derived.Test.YtmnenigmkfnciaaGreatDoorTie
import Derived.Test.YtmnenigmkfnciaaGreatDoorCards
import Derived.SevenTiedAt
namespace Go.Proofs.YtmnenigmkfnciaaGreatDoor.topBlocks
open Go.ChangeShapes Go.WideShapes Go.ChangeAt Go.RowKit Go.Joins Go.Proofs.YtmnenigmkfnciaaGreatDoor.Sx
set_option linter.unusedVariables false
theorem own : ownKnob Tryz.prog.godebug = none := by kernel_rfl
theorem laidOut : laidOutB Tryz.prog = true := by kernel_rfl
theorem gFirst : Tryz.prog.globalNamed "sandglass/sha.first" = some 0 := by kernel_rfl
theorem gRounds : Tryz.prog.globalNamed "sandglass/sha.rounds" = some 1 := by kernel_rfl
def laid2 : List (String × DataW Unit) := [("sandglass/sha.first", Rows.laid_sandglass_sha_first), ("sandglass/sha.rounds", Rows.laid_sandglass_sha_rounds)]
theorem tFirst : (Tryz.prog.globals[0]?).map (·.type) = some 198 := by kernel_rfl
theorem tRounds : (Tryz.prog.globals[1]?).map (·.type) = some 239 := by kernel_rfl
theorem dFirst {H : Type} : (Rows.laid_sandglass_sha_first : DataW H) = .agg (laidFirst.map fun z => .lit (.int .u32 z)) := by kernel_rfl
theorem dRounds {H : Type} : (Rows.laid_sandglass_sha_rounds : DataW H) = .agg (laidRounds.map fun z => .lit (.int .u32 z)) := by kernel_rfl
/-- The door's own heap meets the condition. -/
theorem door_met (os : Os) (args : Array Value) : laidMetH Tryz.prog laid2 ((World.doorLaid Tryz.prog 19 os).forCall (fun _ _ => 0) ⟨#[], args, []⟩).memory :=
  laidMetH_of_parts3 (fuel := 8) (laidMet_of_run' 8 (by kernel_rfl) (by kernel_rfl)) (by kernel_rfl) (by kernel_rfl)
theorem heap_of_var {P : Program} {w : World} {n : String} {g : Nat} {cs : Array Value} (hg : P.globalNamed n = some g) (h : w.var? P n = some cs) : ∃ T fr, w.heap[g]? = some (.cells cs T fr) := by
  simp only [World.var?, hg, Option.bind_some] at h
  split at h
  · rename_i cs' T fr hb
    cases h
    exact ⟨T, fr, hb⟩
  · cases h
/-- What the condition gives the walk. -/
theorem of_laid {W : World} (h : laidMetH Tryz.prog laid2 W) : GOK [] W := by
  rw [MakeChecks.laidMetH_plain _ _ _ (by kernel_rfl)] at h
  obtain ⟨ps, ⟨g0, t0, cs0, f0, p0, q0, hg0, ht0, hv0, hd0, ⟨g1, t1, cs1, f1, p1, q1, hg1, ht1, hv1, hd1, _, _⟩, _⟩, _, _⟩ := h
  obtain rfl := Option.some.inj (gFirst.symm.trans hg0)
  obtain rfl := Option.some.inj (gRounds.symm.trans hg1)
  obtain rfl := Option.some.inj (tFirst.symm.trans ht0)
  obtain rfl := Option.some.inj (tRounds.symm.trans ht1)
  obtain ⟨T0, fr0, hb0⟩ := heap_of_var hg0 hv0
  obtain ⟨T1, fr1, hb1⟩ := heap_of_var hg1 hv1
  have e0 := ints_of Tryz.underlying198 Tryz.underlying197 (by kernel_rfl) (by kernel_rfl) laidFirst (by kernel_rfl) hd0 dFirst
  have e1 := ints_of Tryz.underlying239 Tryz.underlying197 (by kernel_rfl) (by kernel_rfl) laidRounds (by kernel_rfl) hd1 dRounds
  intro p hp
  simp only [Gl, List.mem_cons, List.not_mem_nil, or_false] at hp
  rcases hp with rfl | rfl
  · exact ⟨by simp, cs0, T0, fr0, hb0, e0⟩
  · exact ⟨by simp, cs1, T1, fr1, hb1, e1⟩
set_option maxRecDepth 100000 in
theorem lifted (os : Os) (started : os.Started) (H : Type) (enc : TypeId × Value → H) :
    ReturnsInHanded {} Tryz.checked os 3 .any (fun w args => (Rows.topBlocksSpec.pre enc Tryz.prog Tryz.f3 [] false w args ∧ laidMetH Tryz.prog laid2 w) ∧ sizedMet enc Tryz.prog Tryz.f3 (OpenSpec.ofChange Rows.topBlocksSpec) false w args)
      (Rows.topBlocksSpec.post enc Tryz.prog Tryz.f3 false true false false) := by
  refine returnsInHanded_of_change_and (C := Tryz.checked) (X := fun w _ => laidMetH Tryz.prog laid2 w) (fun _ _ _ hh h => h.of_heap hh) own started (by kernel_rfl) Tryz.func3
    (ChangeSpec.witness_shaped (enc := enc) (C := Tryz.checked) (os := os) (X := fun w _ => laidMetH Tryz.prog laid2 w) false (World.doorLaid Tryz.prog 19 os) #[.slice none 0 0, .int .i64 0] 8 rfl (World.shaped_of_RefB (by kernel_rfl) (by kernel_rfl)) (by kernel_rfl) (by kernel_rfl) (by kernel_rfl) (door_met os _)) ?_
  intro W base args ds gs before hval0 hW _ _ hL _
  have hG := of_laid hL
  have hval : ∀ (j : Nat) t v, Tryz.f3.params[j]? = some t → args[j]? = some v → Value.okWide Tryz.prog W .any base t v := hval0
  have hW' := hW
  obtain ⟨p, q, hA0, hV, rfl, hfz, hnd⟩ := hW
  have hA : DataW.TrodAll enc Tryz.prog W 0 (fun _ => true) true Tryz.f3.params.toList args.toList ds p := hA0
  rw [Tryz.params3] at hA hval
  obtain ⟨v0, vs0, d0, ds0, p0, q0, hargs, rfl, rfl, h0, r0⟩ := trodAll_cons hA
  obtain ⟨v1, vs1, d1, ds1, p1, q1, rfl, rfl, rfl, h1, r1⟩ := trodAll_cons r0
  obtain ⟨rfl, rfl, rfl⟩ := trodAll_nil r1
  obtain rfl : args = #[v0, v1] := by cases args; simp_all
  obtain ⟨rfl, rfl⟩ := trodVars_none hV
  have k0 := h0
  have k1 := h1
  have lt0 : ∀ x ∈ p0, x.block < W.heap.size := by obtain ⟨m, hm⟩ := k0; exact DataW.trod_lt m _ _ _ hm
  have lt1 : ∀ x ∈ p1, x.block < W.heap.size := by obtain ⟨m, hm⟩ := k1; exact DataW.trod_lt m _ _ _ hm
  obtain ⟨fu0, hf0⟩ := h0
  obtain ⟨fu1, hf1⟩ := h1
  rw [show v0.cells.toList = [v0] by obtain ⟨_, _, _, hsv⟩ := okWide_slice Tryz.underlying22 (hval 0 22 v0 rfl rfl); subst hsv; rfl] at hf0
  obtain ⟨D, cp0, b0, off0, hc0, hv0, hl0⟩ := open_deeds (e := 32) (u := 30) (p := p0) Tryz.underlying22 Tryz.underlying34 Tryz.underlying32 Tryz.underlying30 (by kernel_rfl) (by kernel_rfl) (by kernel_rfl) ⟨rfl, by kernel_rfl, Tryz.underlying3⟩ ⟨rfl, by kernel_rfl, Tryz.underlying3⟩ ⟨rfl, rfl⟩
    ⟨rfl, by kernel_rfl, Tryz.underlying3⟩ ⟨rfl, by kernel_rfl, Tryz.underlying3⟩ ⟨rfl, rfl⟩
    ⟨rfl, by kernel_rfl, Tryz.underlying3⟩ ⟨rfl, by kernel_rfl, Tryz.underlying3⟩ ⟨rfl, by kernel_rfl, Tryz.underlying9⟩ ⟨rfl, by kernel_rfl, Tryz.underlying9⟩ (hval 0 22 v0 rfl rfl) (fun bb oo hm => hfz bb oo (by simp [hm])) hf0
  obtain ⟨most, rfl⟩ := okWide_int Tryz.underlying3 (hval 1 3 v1 rfl rfl)
  clear hA0 hval0
  refine (calls_of1 (w := W) (b0 := b0) (x := (cp0 * 8, off0)) (us := #[v0, .int .i64 most]) (args := [.slc 0 0 D.n cp0 8, .v (.int .i64 most)]) blocks_ok
    ⟨_, _, rfl, ⟨by decide, hc0, hv0.imp_right fun h => ⟨0, cp0, h, Nat.le_refl _, .inl rfl, by simp⟩⟩, ⟨_, _, rfl, rfl, rfl⟩⟩
    (hl0.elim (fun h => .inl ⟨by simp [h.1], h.2⟩) .inr) (fun K hK => ⟨D, cp0, most, rfl, rfl, hc0, hK⟩) hG).mono fun e W' ⟨he, bel⟩ => ?_
  subst he
  exact ⟨_, rfl, _, _, _, [], _, [], hW', trodAll_mk1 (shut_bool Tryz.underlying4 _), (trodAll_cons_mk (Below.trod laidOut (by kernel_rfl) (of_decide_eq_true (by kernel_rfl)) k0 bel lt0) (trodAll_cons_mk (Below.trod laidOut (by kernel_rfl) (of_decide_eq_true (by kernel_rfl)) k1 bel lt1) trodAll_mk0)), rfl, bel.frame _, fun h => by cases h⟩
theorem over : Rows.TopBlocksSaid :=
  OpenClaim.holds_of_wide 3 Tryz.f3 rfl rfl rfl rfl rfl rfl rfl ⟨rfl, rfl, rfl, rfl, rfl⟩ rfl rfl rfl rfl rfl (by kernel_rfl) Tryz.func3 (by kernel_rfl)
    (of_decide_eq_true (by kernel_rfl)) (by unfold Func.isWrapper; first | (rw [if_pos (by decide +kernel)]; kernel_rfl) | (rw [if_neg (by decide +kernel)]; exact ⟨rfl, rfl⟩))
    (fun os started H enc _ => lifted os started H enc)
theorem card : Rows.TopBlocksCardSaid :=
  Claim7.holds_tied_plain_at .later [] [.data, .data] true (true, "ac07a3b9c4231bd282e760ca24fc3075b8d7946224d1265bf68c64ebd9964a5d") false
    over (fun _ h => by cases h) (by kernel_rfl) (fun _ h => by cases h) topBlocks_row_tie rfl ⟨rfl, rfl⟩ (by kernel_rfl) rfl
    (fun f fn hf hfn => by
      obtain rfl : f = 3 := Option.some.inj ((show Tryz.prog.funcNamed "sandglass/sandglasstop.TopBlocks" = some 3 by kernel_rfl).symm.trans hf) |>.symm
      obtain rfl : fn = Tryz.f3 := (Option.some.inj (Tryz.func3.symm.trans hfn)).symm
      exact ⟨by kernel_rfl, fun j t ht => by
        rw [Tryz.params3] at ht
        have h3 : t = 22 ∨ t = 3 := by
          rcases j with _ | _ | j
          · left; simpa using ht.symm
          · right; simpa using ht.symm
          · simp at ht
        rcases h3 with rfl | rfl
        · exact (show Tryz.prog.wantsStandIn 22 = false by kernel_rfl)
        · exact (show Tryz.prog.wantsStandIn 3 = false by kernel_rfl)⟩)
    (by kernel_rfl)
#print axioms card
end Go.Proofs.YtmnenigmkfnciaaGreatDoor.topBlocks
namespace Go.Proofs.YtmnenigmkfnciaaGreatDoor
/-- The tied card, under a short name, for the claim. -/
theorem topBlocks_holds : Rows.TopBlocksCardSaid := topBlocks.card
end Go.Proofs.YtmnenigmkfnciaaGreatDoor
