/- Poly1305: the tag of a text by a key. No condition. -/
import Derived.Test.YtinmllbkdjceaaaSx11
import Derived.Test.YtinmllbkdjceaaaProg
import Derived.Test.YtinmllbkdjceaaaBits
import Derived.Test.YtinmllbkdjceaaaWords
import Derived.Test.YtinmllbkdjceaaaPoly1
import Derived.Test.YtinmllbkdjceaaaPoly2
import Derived.Test.YtinmllbkdjceaaaPoly3
import Derived.Test.YtinmllbkdjceaaaPoly4
import Derived.Test.YtinmllbkdjceaaaPoly5
namespace Go.Proofs.Ytinmllbkdjceaaa.Sx
open Go Go.Proofs
set_option maxRecDepth 100000
set_option linter.unusedSimpArgs false
set_option linter.unusedVariables false

def macF (key t : ByteArray) : ByteArray := tagF (accP 0 (val2 (kr0 key) (kr1 key)) t ((t.size + 15) / 16)) (val2 (ks0 key) (ks1 key))
def macS : Spec := .q fun args blks K => match args, blks with
  | [.v (.string key), .v (.string t)], [] => ob (decide (t.size ≤ 100000)) (bc (badK key)
      (K (.tup [.v (.string ⟨#[]⟩), .v (.int .i64 2)]))
      (K (.tup [.v (.string (macF key t)), .v (.int .i64 0)])))
  | _, _ => False
theorem pMac_vf (key t : ByteArray) (K : SV → List Blk → List Nat → Prop) : vf Try.prog [(39, newPS), (40, writeS), (41, psumS)] (noI) Try.f22 [.v (.string key), .v (.string t)] [] K =
  (bc (badK key) (K (SV.tup [SV.v (Value.string { data := { toList := [] } }), SV.v (Value.int IntKind.i64 (2 : Int))]) [] []) (ob (true && decide ((0 : Int) ≤ kr0 key) && decide (kr0 key < (1152921504606846976 : Int)) && decide ((0 : Int) ≤ kr1 key) && decide (kr1 key < (1152921504606846976 : Int)) && decide (t.size ≤ (100000 : Nat))) (ob (decide ((0 : Int) ≤ accP (val3 (0 : Int) (0 : Int) (0 : Int)) (val2 (kr0 key) (kr1 key)) t ((t.size + (15 : Nat)) / (16 : Nat)) % (18446744073709551616 : Int)) && decide (accP (val3 (0 : Int) (0 : Int) (0 : Int)) (val2 (kr0 key) (kr1 key)) t ((t.size + (15 : Nat)) / (16 : Nat)) % (18446744073709551616 : Int) < (18446744073709551616 : Int)) && decide ((0 : Int) ≤ accP (val3 (0 : Int) (0 : Int) (0 : Int)) (val2 (kr0 key) (kr1 key)) t ((t.size + (15 : Nat)) / (16 : Nat)) / (18446744073709551616 : Int) % (18446744073709551616 : Int)) && decide (accP (val3 (0 : Int) (0 : Int) (0 : Int)) (val2 (kr0 key) (kr1 key)) t ((t.size + (15 : Nat)) / (16 : Nat)) / (18446744073709551616 : Int) % (18446744073709551616 : Int) < (18446744073709551616 : Int)) && decide ((0 : Int) ≤ accP (val3 (0 : Int) (0 : Int) (0 : Int)) (val2 (kr0 key) (kr1 key)) t ((t.size + (15 : Nat)) / (16 : Nat)) / (340282366920938463463374607431768211456 : Int)) && decide (accP (val3 (0 : Int) (0 : Int) (0 : Int)) (val2 (kr0 key) (kr1 key)) t ((t.size + (15 : Nat)) / (16 : Nat)) / (340282366920938463463374607431768211456 : Int) < (4 : Int)) && decide ((0 : Int) ≤ ks0 key) && decide (ks0 key < (18446744073709551616 : Int)) && decide ((0 : Int) ≤ ks1 key) && decide (ks1 key < (18446744073709551616 : Int))) (K (SV.tup [SV.v (Value.string (tagF (accP (val3 (0 : Int) (0 : Int) (0 : Int)) (val2 (kr0 key) (kr1 key)) t ((t.size + (15 : Nat)) / (16 : Nat)) % (18446744073709551616 : Int) + (18446744073709551616 : Int) * (accP (val3 (0 : Int) (0 : Int) (0 : Int)) (val2 (kr0 key) (kr1 key)) t ((t.size + (15 : Nat)) / (16 : Nat)) / (18446744073709551616 : Int) % (18446744073709551616 : Int)) + (340282366920938463463374607431768211456 : Int) * (accP (val3 (0 : Int) (0 : Int) (0 : Int)) (val2 (kr0 key) (kr1 key)) t ((t.size + (15 : Nat)) / (16 : Nat)) / (340282366920938463463374607431768211456 : Int))) (ks0 key + (18446744073709551616 : Int) * ks1 key))), SV.v (Value.int IntKind.i64 (0 : Int))]) [Blk.ints true IntKind.u64 [accP (val3 (0 : Int) (0 : Int) (0 : Int)) (val2 (kr0 key) (kr1 key)) t ((t.size + (15 : Nat)) / (16 : Nat)) % (18446744073709551616 : Int), accP (val3 (0 : Int) (0 : Int) (0 : Int)) (val2 (kr0 key) (kr1 key)) t ((t.size + (15 : Nat)) / (16 : Nat)) / (18446744073709551616 : Int) % (18446744073709551616 : Int), accP (val3 (0 : Int) (0 : Int) (0 : Int)) (val2 (kr0 key) (kr1 key)) t ((t.size + (15 : Nat)) / (16 : Nat)) / (340282366920938463463374607431768211456 : Int), kr0 key, kr1 key, ks0 key, ks1 key]] [])))) := by kernel_rfl
theorem iand15 (x : Int) (h0 : 0 ≤ x) (h1 : x < 256) : iand .u8 x 15 = x % 16 := iand_mask .u8 x 4 16 (by decide) (by decide) rfl h0 h1
theorem iand_u8 (x y : Int) : 0 ≤ iand .u8 x y ∧ iand .u8 x y < 256 := by unfold iand; rw [wrap_u8]; omega
theorem clampL_range {l : List Int} (h : ∀ x ∈ l, 0 ≤ x ∧ x < 256) : ∀ x ∈ clampL l, 0 ≤ x ∧ x < 256 := by
  intro x hx
  rw [clampL, List.mem_mapIdx] at hx
  obtain ⟨i, hi, rfl⟩ := hx
  have := h l[i] (List.getElem_mem hi)
  split
  · exact iand_u8 _ _
  · split
    · exact this
    · exact iand_u8 _ _
  · exact this
theorem clampF_bytes (s : ByteArray) : bytesL (clampF s) = clampL (bytesL s) := by
  rw [clampF]; exact bytesL_bstr (clampL_range bytesL_range)
theorem clampL_top (l : List Int) (h : ∀ x ∈ l, 0 ≤ x ∧ x < 256) (i : Nat) (hi : i % 4 = 3) (hl : i < l.length) : (clampL l).getD i 0 < 16 := by
  rw [clampL, List.getD_eq_getElem?_getD, List.getElem?_mapIdx, List.getElem?_eq_getElem hl, Option.map_some, Option.getD_some, hi]
  have := h l[i] (List.getElem_mem hl)
  show iand .u8 l[i] 15 < 16
  rw [iand15 _ this.1 this.2]; omega
theorem kr_b (l : List Int) (h : okB l = true) (off : Nat) (h7 : l.getD (off + 7) 0 < 16) : 0 ≤ numK l off 8 ∧ numK l off 8 < 1152921504606846976 := by
  rw [numK.eq_2 l off 7]
  have h1 := numK_bound h off 7
  have h2 := okB_get h (off + 7)
  rw [show (256 : Int) ^ 7 = 72057594037927936 from rfl] at *
  omega
theorem kr0_b (key : ByteArray) (h : key.size = 32) : 0 ≤ kr0 key ∧ kr0 key < 1152921504606846976 := by
  rw [kr0, clampF_bytes]
  refine kr_b _ (by rw [← clampF_bytes]; exact okB_bytes _) 0 (clampL_top _ bytesL_range 7 rfl ?_)
  rw [bytesL_len, ByteArray.size_extract]; omega
theorem kr1_b (key : ByteArray) (h : key.size = 32) : 0 ≤ kr1 key ∧ kr1 key < 1152921504606846976 := by
  rw [kr1, clampF_bytes]
  refine kr_b _ (by rw [← clampF_bytes]; exact okB_bytes _) 8 (clampL_top _ bytesL_range 15 rfl ?_)
  rw [bytesL_len, ByteArray.size_extract]; omega
theorem ks0_b (key : ByteArray) : 0 ≤ ks0 key ∧ ks0 key < 18446744073709551616 := by
  rw [ks0]; exact numK_bound (okB_bytes _) 0 8
theorem ks1_b (key : ByteArray) : 0 ≤ ks1 key ∧ ks1 key < 18446744073709551616 := by
  rw [ks1]; exact numK_bound (okB_bytes _) 8 8
theorem accP_words (X : Int) (h : 0 ≤ X) : X % 18446744073709551616 + 18446744073709551616 * (X / 18446744073709551616 % 18446744073709551616) + 340282366920938463463374607431768211456 * (X / 340282366920938463463374607431768211456) = X := by omega
theorem pMac_ok : SpecOK Try.prog 22 macS := by
  have hS : SpecsOK Try.prog [(39, newPS), (40, writeS), (41, psumS)] := SpecsOK.cons newP_ok (SpecsOK.cons pWrite_ok (SpecsOK.cons pSum_ok SpecsOK.nil))
  refine q_of mixed hS Try.func22 rfl rfl fun args blks K h => ?_
  split at h
  · rename_i key t
    rw [ob_iff, bc_iff] at h
    obtain ⟨ht, hb, hg⟩ := h
    have ht := of_decide_eq_true ht
    by_cases hk : badK key = true
    · refine ⟨_, rfl, hb hk, rfl, noI, ?_⟩
      rw [pMac_vf]
      exact bc_mk (fun _ => (by repeat' (first | exact trivial | exact rfl | apply And.intro | (intro h; exact h)))) (fun h => absurd (h.symm.trans hk) (by decide))
    · rw [Bool.not_eq_true] at hk
      refine ⟨_, rfl, hg hk, rfl, noI, ?_⟩
      have hz := badK_false hk
      rw [pMac_vf]
      refine bc_mk (fun h => absurd (h.symm.trans hk) (by decide)) (fun _ => ?_)
      have b0 := kr0_b key hz
      have b1 := kr1_b key hz
      have b2 := ks0_b key
      have b3 := ks1_b key
      have hR : 0 ≤ val2 (kr0 key) (kr1 key) ∧ val2 (kr0 key) (kr1 key) < 21267647932558653966460912964485513216 := by rw [val2]; omega
      have h0 : val3 0 0 0 = 0 := by rw [val3]; rfl
      rw [h0]
      have hacc := accP_lt 0 (val2 (kr0 key) (kr1 key)) t (by decide) (by decide) hR.1 hR.2 ((t.size + 15) / 16)
      have hm : macF key t = tagF (accP 0 (val2 (kr0 key) (kr1 key)) t ((t.size + 15) / 16)) (ks0 key + 18446744073709551616 * ks1 key) := by rw [macF, val2.eq_1 (ks0 key)]
      generalize accP 0 (val2 (kr0 key) (kr1 key)) t ((t.size + 15) / 16) = X at *
      obtain ⟨w1, w2, w3, w4, w5, w6⟩ := words_b hacc.1 hacc.2
      rw [accP_words X hacc.1, ← hm]
      clear hm
      (repeat (first | (with_reducible refine ob_true ?_) | refine ob_mk (by first | (with_reducible exact beq_self_eq_true _) | (with_reducible exact nbeq _) | (with_reducible exact nble _) | (with_reducible exact seq_rfl _) | (with_reducible assumption) | (simp only [decide_eq_true_eq, Bool.and_eq_true, beq_iff_eq, Bool.true_and, Bool.and_true, Nat.beq_eq, Nat.ble_eq, true_and, and_true, ge_iff_le, gt_iff_lt]; first | done | omega)) ?_))
      exact (by repeat' (first | exact trivial | exact rfl | apply And.intro | (intro h; exact h)))
  · exact h.elim

end Go.Proofs.Ytinmllbkdjceaaa.Sx
