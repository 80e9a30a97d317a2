/- The statements of layer 10. No condition. -/
import Derived.Test.YtinmllbkdjceaaaSx11
import Derived.Test.YtinmllbkdjceaaaProg
import Derived.Test.YtinmllbkdjceaaaBits
import Derived.Test.YtinmllbkdjceaaaWords
import Derived.Test.YtinmllbkdjceaaaPoly1
import Derived.Test.YtinmllbkdjceaaaPoly2
import Derived.Test.YtinmllbkdjceaaaPoly3
import Derived.Test.YtinmllbkdjceaaaPoly4
import Derived.Test.YtinmllbkdjceaaaPoly5
import Derived.Test.YtinmllbkdjceaaaPoly6
namespace Go.Proofs.Ytinmllbkdjceaaa.Sx
open Go Go.Proofs
set_option maxRecDepth 100000
set_option linter.unusedSimpArgs false
set_option linter.unusedVariables false

def awakeS : Spec := .q fun args blks K => match args, blks with
  | [], [] => K (.v (.bool true))
  | _, _ => False
theorem clamps_vf (s : ByteArray) (K : SV → List Blk → List Nat → Prop) : vf Try.prog [(21, awakeS), (24, clampS), (25, clampS)] (noI) Try.f8 [.v (.string s)] [] K =
  (bc (badC s) (bc (badC s) (K (SV.v (Value.bool true)) [] []) (bc (!seq { data := { toList := [] } } (clampF s)) (K (SV.v (Value.bool false)) [] []) (K (SV.v (Value.bool false)) [] []))) (bc (badC s) (bc (!seq (clampF s) { data := { toList := [] } }) (K (SV.v (Value.bool false)) [] []) (K (SV.v (Value.bool false)) [] [])) (bc (!seq (clampF s) (clampF s)) (K (SV.v (Value.bool false)) [] []) (bc (badC (clampF s)) (bc (seq { data := { toList := [] } } (clampF s)) (K (SV.v (Value.bool false)) [] []) (K (SV.v (Value.bool false)) [] [])) (bc (seq (clampF (clampF s)) (clampF s)) (K (SV.v (Value.bool true)) [] []) (K (SV.v (Value.bool false)) [] [])))))) := by kernel_rfl
theorem clamped_vf (key s : ByteArray) (K : SV → List Blk → List Nat → Prop) : vf Try.prog [(21, awakeS), (24, clampS), (22, macS)] (noI) Try.f9 [.v (.string key), .v (.string s)] [] K =
  (bc ((↑key.size : Int) != (32 : Int)) (K (SV.v (Value.bool true)) [] []) (bc (bif false then true else decide ((↑s.size : Int) > (2000 : Int))) (K (SV.v (Value.bool true)) [] []) (ob (true && decide ((16 : Int) ≤ (↑key.size : Int))) (bc (badC (key.extract (0 : Nat) (16 : Nat))) (ob (decide (s.size ≤ (100000 : Nat))) (bc (badK key) (ob (true && decide ((16 : Int) ≤ (↑key.size : Int))) (ob (decide ((0 : Nat) + (key.extract (16 : Nat) key.size).size ≤ (9223372036854775807 : Nat))) (ob (decide (s.size ≤ (100000 : Nat))) (bc (badK ({ data := { toList := [] } } ++ key.extract (16 : Nat) key.size)) (K (SV.v (Value.bool false)) [] []) (K (SV.v (Value.bool false)) [] []))))) (ob (true && decide ((16 : Int) ≤ (↑key.size : Int))) (ob (decide ((0 : Nat) + (key.extract (16 : Nat) key.size).size ≤ (9223372036854775807 : Nat))) (ob (decide (s.size ≤ (100000 : Nat))) (bc (badK ({ data := { toList := [] } } ++ key.extract (16 : Nat) key.size)) (K (SV.v (Value.bool false)) [] []) (K (SV.v (Value.bool false)) [] []))))))) (ob (decide (s.size ≤ (100000 : Nat))) (bc (badK key) (ob (true && decide ((16 : Int) ≤ (↑key.size : Int))) (ob (decide ((clampF (key.extract (0 : Nat) (16 : Nat))).size + (key.extract (16 : Nat) key.size).size ≤ (9223372036854775807 : Nat))) (ob (decide (s.size ≤ (100000 : Nat))) (bc (badK (clampF (key.extract (0 : Nat) (16 : Nat)) ++ key.extract (16 : Nat) key.size)) (K (SV.v (Value.bool false)) [] []) (K (SV.v (Value.bool false)) [] []))))) (ob (true && decide ((16 : Int) ≤ (↑key.size : Int))) (ob (decide ((clampF (key.extract (0 : Nat) (16 : Nat))).size + (key.extract (16 : Nat) key.size).size ≤ (9223372036854775807 : Nat))) (ob (decide (s.size ≤ (100000 : Nat))) (bc (badK (clampF (key.extract (0 : Nat) (16 : Nat)) ++ key.extract (16 : Nat) key.size)) (K (SV.v (Value.bool false)) [] []) (bc (bif true then seq (macF key s) (macF (clampF (key.extract (0 : Nat) (16 : Nat)) ++ key.extract (16 : Nat) key.size) s) else false) (bc (bif true then (↑(macF key s).size : Int) == (16 : Int) else false) (K (SV.v (Value.bool true)) [] []) (K (SV.v (Value.bool false)) [] [])) (K (SV.v (Value.bool false)) [] [])))))))))))) := by kernel_rfl
theorem awake10_vf (K : SV → List Blk → List Nat → Prop) : vf Try.prog [(22, macS)] noI Try.f21 [] [] K = K (SV.v (Value.bool true)) [Blk.ints true .u8 (List.replicate 32 0), Blk.ints true .u8 (List.replicate 16 0)] [] := by kernel_rfl
theorem awake_ok : SpecOK Try.prog 21 awakeS := by
  have hS : SpecsOK Try.prog [(22, macS)] := SpecsOK.cons pMac_ok SpecsOK.nil
  refine q_of mixed hS Try.func21 rfl rfl fun args blks K h => ?_
  split at h
  · refine ⟨_, rfl, h, rfl, noI, ?_⟩
    rw [awake10_vf]
    exact ⟨rfl, ⟨rfl, rfl⟩, rfl⟩
  · exact h.elim
theorem bytesL_app (s t : ByteArray) : bytesL (s ++ t) = bytesL s ++ bytesL t := by
  simp [bytesL, ByteArray.data_append]
theorem iand_idem (x y : Int) : iand .u8 (iand .u8 x y) y = iand .u8 x y := by
  have e : ∀ v : BitVec 8, BitVec.ofInt 8 ((v.toNat : Int) % 256) = v := fun v => by
    apply BitVec.eq_of_toNat_eq
    have := v.isLt
    rw [BitVec.toNat_ofInt]
    omega
  unfold iand
  rw [wrap_u8, wrap_u8]
  show ((BitVec.ofInt 8 ((((BitVec.ofInt 8 x &&& BitVec.ofInt 8 y).toNat : Nat) : Int) % 256) &&& BitVec.ofInt 8 y).toNat : Int) % 256 = ((BitVec.ofInt 8 x &&& BitVec.ofInt 8 y).toNat : Int) % 256
  rw [e, BitVec.and_assoc, BitVec.and_self]
def clampE (i : Nat) (x : Int) : Int := match i % 4 with | 3 => iand .u8 x 15 | 0 => (match i with | 0 => x | _ => iand .u8 x 252) | _ => x
theorem clampL_E (l : List Int) : clampL l = l.mapIdx clampE := by rw [clampL]; rfl
theorem clampE_idem (i : Nat) (x : Int) : clampE i (clampE i x) = clampE i x := by
  unfold clampE
  generalize i % 4 = m
  rcases m with _ | _ | _ | _ | m
  · cases i with
    | zero => rfl
    | succ i => exact iand_idem _ _
  · rfl
  · rfl
  · exact iand_idem _ _
  · rfl
theorem clampL_idem (l : List Int) : clampL (clampL l) = clampL l := by
  rw [clampL_E, clampL_E, List.mapIdx_mapIdx]
  apply List.ext_getElem
  · rw [List.length_mapIdx, List.length_mapIdx]
  · intro i h1 h2
    rw [List.getElem_mapIdx, List.getElem_mapIdx]
    exact clampE_idem i _
theorem clampF_idem (s : ByteArray) : clampF (clampF s) = clampF s := by
  apply bytesL_inj
  rw [clampF_bytes, clampF_bytes, clampL_idem]
theorem badC_clamp (s : ByteArray) : badC (clampF s) = badC s := by unfold badC; rw [clampF_size]
def strS : Spec := .q fun args blks K => match args, blks with
  | [.v (.string _)], [] => K (.v (.bool true))
  | _, _ => False
theorem clamps_ok : SpecOK Try.prog 8 strS := by
  have hS : SpecsOK Try.prog [(21, awakeS), (24, clampS), (25, clampS)] := SpecsOK.cons awake_ok (SpecsOK.cons clamp_ok (SpecsOK.cons rclamp_ok SpecsOK.nil))
  refine q_of mixed hS Try.func8 rfl rfl fun args blks K h => ?_
  split at h
  · rename_i s
    refine ⟨_, rfl, h, rfl, noI, ?_⟩
    rw [clamps_vf, badC_clamp, clampF_idem, seq_rfl]
    cases badC s
    · exact (by repeat' (first | exact trivial | exact rfl | apply And.intro | (intro h; exact h)))
    · exact (by repeat' (first | exact trivial | exact rfl | apply And.intro | (intro h; exact h)))
  · exact h.elim
def str2S : Spec := .q fun args blks K => match args, blks with
  | [.v (.string _), .v (.string _)], [] => K (.v (.bool true))
  | _, _ => False
theorem macF_size (key t : ByteArray) : (macF key t).size = 16 := by
  rw [macF, tagF, bstr_size, outP_len]
theorem mac_same (key s : ByteArray) (h : key.size = 32) : macF (clampF (key.extract 0 16) ++ key.extract 16 key.size) s = macF key s := by
  have z1 : (clampF (key.extract 0 16)).size = 16 := by rw [clampF_size, ByteArray.size_extract]; omega
  have z2 : (key.extract 16 key.size).size = 16 := by rw [ByteArray.size_extract]; omega
  have e1 : (clampF (key.extract 0 16) ++ key.extract 16 key.size).extract 0 16 = clampF (key.extract 0 16) := by
    apply bytesL_inj
    rw [bytesL_ext, bytesL_app, List.drop_zero, List.take_append_of_le_length (by rw [bytesL_len]; omega), List.take_of_length_le (by rw [bytesL_len]; omega)]
  have e2 : (clampF (key.extract 0 16) ++ key.extract 16 key.size).extract 16 (clampF (key.extract 0 16) ++ key.extract 16 key.size).size = key.extract 16 key.size := by
    apply bytesL_inj
    rw [bytesL_ext, bytesL_app, ByteArray.size_append, List.take_of_length_le (by rw [List.length_append, bytesL_len, bytesL_len]; omega), List.drop_append_of_le_length (by rw [bytesL_len]; omega), List.drop_eq_nil_of_le (by rw [bytesL_len]; omega), List.nil_append]
  rw [macF, macF, kr0, kr0, kr1, kr1, ks0, ks0, ks1, ks1, e1, e2, clampF_idem]
theorem clamped_ok : SpecOK Try.prog 9 str2S := by
  have hS : SpecsOK Try.prog [(21, awakeS), (24, clampS), (22, macS)] := SpecsOK.cons awake_ok (SpecsOK.cons clamp_ok (SpecsOK.cons pMac_ok SpecsOK.nil))
  refine q_of mixed hS Try.func9 rfl rfl fun args blks K h => ?_
  split at h
  · rename_i key s
    refine ⟨_, rfl, h, rfl, noI, ?_⟩
    rw [clamped_vf]
    refine bc_mk (fun _ => (by repeat' (first | exact trivial | exact rfl | apply And.intro | (intro h; exact h)))) (fun h1 => bc_mk (fun _ => (by repeat' (first | exact trivial | exact rfl | apply And.intro | (intro h; exact h)))) (fun h2 => ?_))
    have hk : key.size = 32 := by simp at h1; omega
    have h2 := of_decide_eq_false h2
    have b1 : badC (key.extract 0 16) = false := by
      have z1 : (key.extract 0 16).size = 16 := by rw [ByteArray.size_extract]; omega
      unfold badC; rw [z1]; rfl
    have z2 : (key.extract 16 key.size).size = 16 := by rw [ByteArray.size_extract]; omega
    have z3 : (clampF (key.extract 0 16)).size = 16 := by rw [clampF_size, ByteArray.size_extract]; omega
    have b2 : badK key = false := by unfold badK; rw [hk]; rfl
    have b3 : badK (clampF (key.extract 0 16) ++ key.extract 16 key.size) = false := by unfold badK; rw [ByteArray.size_append, z2, z3]; rfl
    have hm := mac_same key s hk
    have hz := macF_size key s
    rw [b1, b2, b3, hm, seq_rfl, hz, z2, z3]
    generalize macF key s = tg at *
    (repeat (first | (with_reducible refine ob_true ?_) | refine ob_mk (by first | (with_reducible exact beq_self_eq_true _) | (with_reducible exact nbeq _) | (with_reducible exact nble _) | (with_reducible exact seq_rfl _) | (with_reducible assumption) | (simp only [decide_eq_true_eq, Bool.and_eq_true, beq_iff_eq, Bool.true_and, Bool.and_true, Nat.beq_eq, Nat.ble_eq, true_and, and_true, ge_iff_le, gt_iff_lt]; first | done | omega)) ?_))
    exact (by repeat' (first | exact trivial | exact rfl | apply And.intro | (intro h; exact h)))
  · exact h.elim

end Go.Proofs.Ytinmllbkdjceaaa.Sx
