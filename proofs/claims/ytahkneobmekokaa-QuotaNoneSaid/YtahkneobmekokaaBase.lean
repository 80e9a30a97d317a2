/- What all parts use: the orders, from a contract to a call in any world. No condition. -/
import Derived.Test.YtahkneobmekokaaSx12
import Derived.Test.YtahkneobmekokaaProg
namespace Go.Proofs.Ytahkneobmekokaa.Sx
open Go Go.Proofs
set_option maxRecDepth 100000
set_option linter.unusedSimpArgs false
set_option linter.unusedVariables false

theorem mixed : (Try.prog).follows .mixedOrders = true := rfl
theorem calls_of {f : FuncId} {g : List SV → List Blk → (SV → Prop) → Prop} (h : SpecOK Try.prog f (.q g)) {args : List SV} {us : Array Value} (hr : RelL 0 id id args us.toList) (hg : ∀ K : SV → Prop, K (.v (.bool true)) → g args [] K) (w : World) :
    Calls Try.prog f us w fun e w' => e = .returned (.bool true) ∧ RowKit.Below w.heap.size w w' := by
  obtain ⟨s, hs, hK, hF⟩ := h.2 args [] (fun s => s = .v (.bool true)) (hg _ rfl)
  have hT : TOK id id { A := [], W := [], w0 := w } [] w := by
    refine ⟨Fr.refl _ _, ?_, ?_, ?_, ?_⟩ <;> intro i <;> intros <;> simp_all
  refine (hF _ id id us w hr hT).mono ?_
  rintro e w' ⟨s', v, tbl', mv, ρ', σ', h1, h2, h3, h4, h5, h6, h7, h8⟩
  subst h6 hK
  exact ⟨by rw [h1]; exact congrArg _ h2, h5.fr.below⟩

end Go.Proofs.Ytahkneobmekokaa.Sx
