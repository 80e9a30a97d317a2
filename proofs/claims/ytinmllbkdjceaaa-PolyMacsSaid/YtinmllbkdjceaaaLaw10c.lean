/- The statement PolyMacs: the tag against the reference's. No condition. -/
import Derived.Test.YtinmllbkdjceaaaSx11
import Derived.Test.YtinmllbkdjceaaaProg
import Derived.Test.YtinmllbkdjceaaaBits
import Derived.Test.YtinmllbkdjceaaaWords
import Derived.Test.YtinmllbkdjceaaaPoly1
import Derived.Test.YtinmllbkdjceaaaPoly2
import Derived.Test.YtinmllbkdjceaaaPoly3
import Derived.Test.YtinmllbkdjceaaaPoly4
import Derived.Test.YtinmllbkdjceaaaPoly5
import Derived.Test.YtinmllbkdjceaaaPoly6
import Derived.Test.YtinmllbkdjceaaaLaw10
import Derived.Test.YtinmllbkdjceaaaLaw10b
import Derived.Test.YtinmllbkdjceaaaRef1
import Derived.Test.YtinmllbkdjceaaaRef10
import Derived.Test.YtinmllbkdjceaaaRef10b
import Derived.Test.YtinmllbkdjceaaaRef10c
namespace Go.Proofs.Ytinmllbkdjceaaa.Sx
open Go Go.Proofs
set_option maxRecDepth 100000
set_option linter.unusedSimpArgs false
set_option linter.unusedVariables false

theorem macs_vf (key s : ByteArray) (K : SV → List Blk → List Nat → Prop) : vf Try.prog [(21, awakeS), (22, macS), (23, macS)] (noI) Try.f7 [.v (.string key), .v (.string s)] [] K =
  (bc (decide ((↑s.size : Int) > (2000 : Int))) (K (SV.v (Value.bool true)) [] []) (ob (decide (s.size ≤ (100000 : Nat))) (bc (badK key) (ob (decide (s.size ≤ (100000 : Nat))) (bc (badK key) (K (SV.v (Value.bool true)) [] []) (bc (seq { data := { toList := [] } } (macF key s)) (K (SV.v (Value.bool false)) [] []) (K (SV.v (Value.bool false)) [] [])))) (ob (decide (s.size ≤ (100000 : Nat))) (bc (badK key) (bc (seq (macF key s) { data := { toList := [] } }) (K (SV.v (Value.bool false)) [] []) (K (SV.v (Value.bool false)) [] [])) (bc (seq (macF key s) (macF key s)) (K (SV.v (Value.bool true)) [] []) (K (SV.v (Value.bool false)) [] []))))))) := by kernel_rfl
theorem macs_ok : SpecOK Try.prog 7 str2S := by
  have hS : SpecsOK Try.prog [(21, awakeS), (22, macS), (23, macS)] := SpecsOK.cons awake_ok (SpecsOK.cons pMac_ok (SpecsOK.cons rMac_ok SpecsOK.nil))
  refine q_of mixed hS Try.func7 rfl rfl fun args blks K h => ?_
  split at h
  · rename_i key s
    refine ⟨_, rfl, h, rfl, noI, ?_⟩
    rw [macs_vf]
    refine bc_mk (fun _ => (by repeat' (first | exact trivial | exact rfl | apply And.intro | (intro h; exact h)))) (fun h2 => ?_)
    have h2 := of_decide_eq_false h2
    have hs : decide (s.size ≤ 100000) = true := decide_eq_true (by omega)
    rw [hs, seq_rfl]
    cases badK key
    · exact (by repeat' (first | exact trivial | exact rfl | apply And.intro | (intro h; exact h)))
    · exact (by repeat' (first | exact trivial | exact rfl | apply And.intro | (intro h; exact h)))
  · exact h.elim

end Go.Proofs.Ytinmllbkdjceaaa.Sx
