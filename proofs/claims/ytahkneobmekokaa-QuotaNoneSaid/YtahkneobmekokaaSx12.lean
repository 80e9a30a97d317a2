/- The walk by computation: less told behind a call, calls met by their bodies. No condition. -/
import Derived.Test.YtahkneobmekokaaSx11
namespace Go.Proofs.Ytahkneobmekokaa.Sx
open Go

section
variable {P : Program} {S : Specs}

/-- Behind a call less is told. -/
theorem FnOK.le {f : FuncId} {args : List SV} {tbl : List Blk} {K : SV → List Blk → List Nat → Prop}
    (h : FnOK P f args tbl fun s t m => ∃ s' t', SV.le s s' ∧ tblLe t t' ∧ (s'.lt t'.length && tblLt t'.length t' && Nat.ble tbl.length t'.length) = true ∧ K s' t' m) : FnOK P f args tbl K :=
  fun B ρ σ as w hr hT => (h B ρ σ as w hr hT).mono fun e w' ⟨s, v, t, m, ρ', σ', h1, h2, h3, h4, h5, s', t', h6, h7, h8, h9⟩ => by
    simp only [Bool.and_eq_true] at h8
    obtain ⟨⟨h10, h11⟩, h12⟩ := h8
    have h12 := Nat.le_of_ble_eq_true h12
    refine ⟨s', v, t', m, ρ', fun i => if i < t.length then σ' i else 0, h1, ?_, h12, fun i hi hm => ?_, h5.le h7 h11, h9⟩
    · exact Rel.cutLe (fun i hi => ⟨rfl, by simp [hi]⟩) (fun i hi => by simp [Nat.not_lt.2 hi]) s' s v h6 h10 h2
    · have hlt : i < t.length := by omega
      obtain ⟨e1, e2⟩ := h4 i hi hm
      exact ⟨e1, by simp [hlt, e2]⟩

/-- A call that is met by its body. -/
def inl (P : Program) (S : Specs) (I : Nat → St → LK) (fn : Func) : Spec := .m fun args blks K => vf P S I fn args blks K
theorem inl_ok {I : Nat → St → LK} {f : FuncId} {fn : Func} (hm : P.follows .mixedOrders = true) (hS : SpecsOK P S) (hf : P.funcs[f]? = some fn) (hn : (fn.name == "runtime.NumGoroutine") = false) (hb : fn.body.isNone = false) : SpecOK P f (inl P S I fn) :=
  ⟨enters_of hf hn hb, fun args blks K hg => FnOK.of_vf hm hS hf hg⟩
/-- A function whose spec is told of its body's outcome. -/
theorem m_le {f : FuncId} {fn : Func} {g : List SV → List Blk → (SV → List Blk → List Nat → Prop) → Prop} (hm : P.follows .mixedOrders = true) (hS : SpecsOK P S) (hf : P.funcs[f]? = some fn) (hn : (fn.name == "runtime.NumGoroutine") = false) (hb : fn.body.isNone = false)
    (h : ∀ args blks K, g args blks K → ∃ I, vf P S I fn args blks fun s t m => ∃ s' t', SV.le s s' ∧ tblLe t t' ∧ (s'.lt t'.length && tblLt t'.length t' && Nat.ble blks.length t'.length) = true ∧ K s' t' m) : SpecOK P f (.m g) :=
  ⟨enters_of hf hn hb, fun args blks K hg => by
    obtain ⟨I, h1⟩ := h args blks K hg
    exact FnOK.le (FnOK.of_vf hm hS hf h1)⟩
/-- A function that is given nothing and gives true. -/
def closedS : Spec := .q fun args blks K => match args, blks with
  | [], [] => K (.v (.bool true))
  | _, _ => False
theorem closed_ok {I : Nat → St → LK} {f : FuncId} {fn : Func} (hm : P.follows .mixedOrders = true) (hS : SpecsOK P S) (hf : P.funcs[f]? = some fn) (hn : (fn.name == "runtime.NumGoroutine") = false) (hb : fn.body.isNone = false)
    (h : ∀ K : SV → Prop, (vf P S I fn [] [] fun s _ _ => K s) = K (.v (.bool true))) : SpecOK P f closedS :=
  ⟨enters_of hf hn hb, fun args blks K hg => by
    dsimp only at hg
    split at hg
    · refine ⟨.v (.bool true), rfl, hg, ?_⟩
      have h1 : vf P S I fn [] [] fun s _ _ => s = .v (.bool true) := by rw [h fun s => s = .v (.bool true)]
      have h2 := FnOK.of_vf hm hS hf h1
      intro B ρ σ as w hr hT
      refine (h2 B ρ σ as w hr hT).mono fun e w' ⟨s, v, t, m, ρ', σ', g1, g2, g3, g4, g5, g6⟩ => ?_
      subst g6
      refine ⟨.v (.bool true), v, [], [], ρ', σ', g1, (by simpa [Rel] using g2), Nat.le_refl _, fun i hi => absurd hi (by simp), ?_, rfl, rfl, rfl⟩
      exact g5.trim 0 rfl (Nat.zero_le _)
    · exact hg.elim⟩
end
end Go.Proofs.Ytahkneobmekokaa.Sx
