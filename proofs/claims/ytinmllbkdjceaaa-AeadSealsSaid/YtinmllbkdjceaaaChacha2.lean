/- ChaCha20's quarter rounds as contracts: all eight. No condition. -/
import Derived.Test.YtinmllbkdjceaaaSx11
import Derived.Test.YtinmllbkdjceaaaProg
import Derived.Test.YtinmllbkdjceaaaBits
import Derived.Test.YtinmllbkdjceaaaChacha1
namespace Go.Proofs.Ytinmllbkdjceaaa.Sx
open Go Go.Proofs
set_option maxRecDepth 100000
set_option linter.unusedSimpArgs false
set_option linter.unusedVariables false

theorem okq_cases {a b c d : Int} (h : okq a b c d = true) : (a = 0 ∧ b = 4 ∧ c = 8 ∧ d = 12) ∨ (a = 1 ∧ b = 5 ∧ c = 9 ∧ d = 13) ∨ (a = 2 ∧ b = 6 ∧ c = 10 ∧ d = 14) ∨ (a = 3 ∧ b = 7 ∧ c = 11 ∧ d = 15) ∨ (a = 0 ∧ b = 5 ∧ c = 10 ∧ d = 15) ∨ (a = 1 ∧ b = 6 ∧ c = 11 ∧ d = 12) ∨ (a = 2 ∧ b = 7 ∧ c = 8 ∧ d = 13) ∨ (a = 3 ∧ b = 4 ∧ c = 9 ∧ d = 14) := by
  simpa [okq, and_assoc] using h
theorem r16 (x : Int) : rot32F x 16 = turnF x 16 := rot32_turn x 16 (by decide) (by decide)
theorem r12 (x : Int) : rot32F x 12 = turnF x 12 := rot32_turn x 12 (by decide) (by decide)
theorem r8 (x : Int) : rot32F x 8 = turnF x 8 := rot32_turn x 8 (by decide) (by decide)
theorem r7 (x : Int) : rot32F x 7 = turnF x 7 := rot32_turn x 7 (by decide) (by decide)
theorem quarter_ok : SpecOK Try.prog 53 quarterS := by
  have hS : SpecsOK Try.prog [(67, rot32S)] := SpecsOK.cons rot32_ok SpecsOK.nil
  refine m_of mixed hS Try.func53 rfl rfl fun args blks K h => ?_
  split at h
  · rename_i a b c d l
    rw [ob_iff, Bool.and_eq_true] at h
    obtain ⟨⟨h1, h2⟩, hK⟩ := h
    obtain ⟨x0, x1, x2, x3, x4, x5, x6, x7, x8, x9, x10, x11, x12, x13, x14, x15, rfl⟩ := list16 (of_decide_eq_true h2)
    refine ⟨noI, 1, ?_⟩
    rcases okq_cases h1 with ⟨rfl, rfl, rfl, rfl⟩ | ⟨rfl, rfl, rfl, rfl⟩ | ⟨rfl, rfl, rfl, rfl⟩ | ⟨rfl, rfl, rfl, rfl⟩ | ⟨rfl, rfl, rfl, rfl⟩ | ⟨rfl, rfl, rfl, rfl⟩ | ⟨rfl, rfl, rfl, rfl⟩ | ⟨rfl, rfl, rfl, rfl⟩
    · rw [quarter_0_4_8_12_vf]; simp only [r16, r12, r8, r7]; exact ⟨rfl, hK⟩
    · rw [quarter_1_5_9_13_vf]; simp only [r16, r12, r8, r7]; exact ⟨rfl, hK⟩
    · rw [quarter_2_6_10_14_vf]; simp only [r16, r12, r8, r7]; exact ⟨rfl, hK⟩
    · rw [quarter_3_7_11_15_vf]; simp only [r16, r12, r8, r7]; exact ⟨rfl, hK⟩
    · rw [quarter_0_5_10_15_vf]; simp only [r16, r12, r8, r7]; exact ⟨rfl, hK⟩
    · rw [quarter_1_6_11_12_vf]; simp only [r16, r12, r8, r7]; exact ⟨rfl, hK⟩
    · rw [quarter_2_7_8_13_vf]; simp only [r16, r12, r8, r7]; exact ⟨rfl, hK⟩
    · rw [quarter_3_4_9_14_vf]; simp only [r16, r12, r8, r7]; exact ⟨rfl, hK⟩
  · exact h.elim
theorem rquarter_ok : SpecOK Try.prog 36 rquarterS := by
  have hS : SpecsOK Try.prog [(54, turnS)] := SpecsOK.cons turn_ok SpecsOK.nil
  refine q_of mixed hS Try.func36 rfl rfl fun args blks K h => ?_
  split at h
  · rename_i l a b c d
    rw [ob_iff, Bool.and_eq_true] at h
    obtain ⟨⟨h1, h2⟩, hK⟩ := h
    obtain ⟨x0, x1, x2, x3, x4, x5, x6, x7, x8, x9, x10, x11, x12, x13, x14, x15, rfl⟩ := list16 (of_decide_eq_true h2)
    rcases okq_cases h1 with ⟨rfl, rfl, rfl, rfl⟩ | ⟨rfl, rfl, rfl, rfl⟩ | ⟨rfl, rfl, rfl, rfl⟩ | ⟨rfl, rfl, rfl, rfl⟩ | ⟨rfl, rfl, rfl, rfl⟩ | ⟨rfl, rfl, rfl, rfl⟩ | ⟨rfl, rfl, rfl, rfl⟩ | ⟨rfl, rfl, rfl, rfl⟩
    · refine ⟨_, rfl, hK, rfl, noI, ?_⟩
      rw [rquarter_0_4_8_12_vf]
      exact ⟨rfl, ⟨rfl, rfl⟩, rfl⟩
    · refine ⟨_, rfl, hK, rfl, noI, ?_⟩
      rw [rquarter_1_5_9_13_vf]
      exact ⟨rfl, ⟨rfl, rfl⟩, rfl⟩
    · refine ⟨_, rfl, hK, rfl, noI, ?_⟩
      rw [rquarter_2_6_10_14_vf]
      exact ⟨rfl, ⟨rfl, rfl⟩, rfl⟩
    · refine ⟨_, rfl, hK, rfl, noI, ?_⟩
      rw [rquarter_3_7_11_15_vf]
      exact ⟨rfl, ⟨rfl, rfl⟩, rfl⟩
    · refine ⟨_, rfl, hK, rfl, noI, ?_⟩
      rw [rquarter_0_5_10_15_vf]
      exact ⟨rfl, ⟨rfl, rfl⟩, rfl⟩
    · refine ⟨_, rfl, hK, rfl, noI, ?_⟩
      rw [rquarter_1_6_11_12_vf]
      exact ⟨rfl, ⟨rfl, rfl⟩, rfl⟩
    · refine ⟨_, rfl, hK, rfl, noI, ?_⟩
      rw [rquarter_2_7_8_13_vf]
      exact ⟨rfl, ⟨rfl, rfl⟩, rfl⟩
    · refine ⟨_, rfl, hK, rfl, noI, ?_⟩
      rw [rquarter_3_4_9_14_vf]
      exact ⟨rfl, ⟨rfl, rfl⟩, rfl⟩
  · exact h.elim

end Go.Proofs.Ytinmllbkdjceaaa.Sx
