/- The helpers of the statements of layer 9. No condition. -/
import Derived.Test.YtinmllbkdjceaaaSx11
import Derived.Test.YtinmllbkdjceaaaProg
import Derived.Test.YtinmllbkdjceaaaBits
import Derived.Test.YtinmllbkdjceaaaChacha1
import Derived.Test.YtinmllbkdjceaaaChacha2
import Derived.Test.YtinmllbkdjceaaaChacha3
import Derived.Test.YtinmllbkdjceaaaChacha4
import Derived.Test.YtinmllbkdjceaaaChacha5
import Derived.Test.YtinmllbkdjceaaaChacha6
namespace Go.Proofs.Ytinmllbkdjceaaa.Sx
open Go Go.Proofs
set_option maxRecDepth 100000

def zerosF (n : Nat) : ByteArray := bstr (List.replicate n 0)
def zerosS : Spec := .q fun args blks K => match args, blks with
  | [.v (.int .i64 n)], [] => ob (decide (0 ≤ n) && decide (n ≤ 1000)) (K (.v (.string (zerosF n.toNat))))
  | _, _ => False
theorem zeros_vf (n : Int) (K : SV → List Blk → List Nat → Prop) : vf Try.prog [] (noI) Try.f37 [.v (.int .i64 n)] [] K =
  (ob (decide ((0 : Int) ≤ n) && decide (n ≤ n) && decide ((1 : Int) * n ≤ (281474976710656 : Int)) && decide (n ≤ (9223372036854775807 : Int))) (ob (decide ((0 : Nat) + n.toNat ≤ (List.replicate n.toNat (0 : Int)).length)) (K (SV.v (Value.string (bstr (List.take n.toNat (List.drop (0 : Nat) (List.replicate n.toNat (0 : Int))))))) [Blk.ints true IntKind.u8 (List.replicate n.toNat (0 : Int))] []))) := by kernel_rfl
def awakeS : Spec := .q fun args blks K => match args, blks with
  | [], [] => K (.v (.bool true))
  | _, _ => False
theorem awake_vf  (K : SV → List Blk → List Nat → Prop) : vf Try.prog [(37, zerosS), (16, blockS), (19, xorS)] (noI) Try.f18 [] [] K =
  (ob true (ob true (bc (badKey (zerosF (32 : Nat)) (zerosF (12 : Nat))) (ob true (ob true (ob true (ob (true && decide ((zerosF (65 : Nat)).size ≤ (100000 : Nat))) (bc (badKey (zerosF (32 : Nat)) (zerosF (12 : Nat))) (K (SV.v (Value.bool false)) [] []) (K (SV.v (Value.bool false)) [] [])))))) (ob true (ob true (ob true (ob (true && decide ((zerosF (65 : Nat)).size ≤ (100000 : Nat))) (bc (badKey (zerosF (32 : Nat)) (zerosF (12 : Nat))) (bc ((↑(blockF (zerosF (32 : Nat)) (zerosF (12 : Nat)) (0 : Int)).size : Int) == (64 : Int)) (ob (true && decide ((4 : Int) ≤ (↑(blockF (zerosF (32 : Nat)) (zerosF (12 : Nat)) (0 : Int)).size : Int))) (bc (bif true then seq ((blockF (zerosF (32 : Nat)) (zerosF (12 : Nat)) (0 : Int)).extract (0 : Nat) (4 : Nat)) { data := { toList := [OfNat.ofNat (118 : Nat), OfNat.ofNat (184 : Nat), OfNat.ofNat (224 : Nat), OfNat.ofNat (173 : Nat)] } } else false) (K (SV.v (Value.bool false)) [] []) (K (SV.v (Value.bool false)) [] []))) (K (SV.v (Value.bool false)) [] [])) (bc ((↑(blockF (zerosF (32 : Nat)) (zerosF (12 : Nat)) (0 : Int)).size : Int) == (64 : Int)) (ob (true && decide ((4 : Int) ≤ (↑(blockF (zerosF (32 : Nat)) (zerosF (12 : Nat)) (0 : Int)).size : Int))) (bc (bif true then seq ((blockF (zerosF (32 : Nat)) (zerosF (12 : Nat)) (0 : Int)).extract (0 : Nat) (4 : Nat)) { data := { toList := [OfNat.ofNat (118 : Nat), OfNat.ofNat (184 : Nat), OfNat.ofNat (224 : Nat), OfNat.ofNat (173 : Nat)] } } else false) (bc (bif true then (↑(xorF (zerosF (32 : Nat)) (zerosF (12 : Nat)) (0 : Int) (zerosF (65 : Nat))).size : Int) == (65 : Int) else false) (ob (true && decide ((64 : Int) ≤ (↑(xorF (zerosF (32 : Nat)) (zerosF (12 : Nat)) (0 : Int) (zerosF (65 : Nat))).size : Int))) (bc (bif true then seq ((xorF (zerosF (32 : Nat)) (zerosF (12 : Nat)) (0 : Int) (zerosF (65 : Nat))).extract (0 : Nat) (64 : Nat)) (blockF (zerosF (32 : Nat)) (zerosF (12 : Nat)) (0 : Int)) else false) (K (SV.v (Value.bool true)) [] []) (K (SV.v (Value.bool false)) [] []))) (K (SV.v (Value.bool false)) [] [])) (K (SV.v (Value.bool false)) [] []))) (K (SV.v (Value.bool false)) [] [])))))))))) := by kernel_rfl
theorem blocks_vf (key nonce : ByteArray) (n : Int) (K : SV → List Blk → List Nat → Prop) : vf Try.prog [(18, awakeS), (16, blockS), (17, blockS)] (noI) Try.f3 [.v (.string key), .v (.string nonce), .v (.int .u32 n)] [] K =
  (bc (badKey key nonce) (bc (badKey key nonce) (K (SV.v (Value.bool true)) [] []) (bc (seq { data := { toList := [] } } (blockF key nonce n)) (K (SV.v (Value.bool false)) [] []) (K (SV.v (Value.bool false)) [] []))) (bc (badKey key nonce) (bc (seq (blockF key nonce n) { data := { toList := [] } }) (K (SV.v (Value.bool false)) [] []) (K (SV.v (Value.bool false)) [] [])) (bc (seq (blockF key nonce n) (blockF key nonce n)) (K (SV.v (Value.bool true)) [] []) (K (SV.v (Value.bool false)) [] [])))) := by kernel_rfl

theorem zeros_ok : SpecOK Try.prog 37 zerosS := by
  refine q_of mixed SpecsOK.nil Try.func37 rfl rfl fun args blks K h => ?_
  split at h
  · rename_i n
    rw [ob_iff] at h
    obtain ⟨hn, hg⟩ := h
    simp only [Bool.and_eq_true, decide_eq_true_eq] at hn
    refine ⟨_, rfl, hg, rfl, noI, ?_⟩
    rw [zeros_vf]
    refine ob_mk (by simp; omega) (ob_mk (by simp) ⟨?_, (by repeat' (first | exact trivial | exact rfl | apply And.intro | (intro h; exact h)))⟩)
    rw [zerosF, List.drop_zero, List.take_of_length_le (by simp)]
  · exact h.elim
theorem zerosF_size (n : Nat) : (zerosF n).size = n := by rw [zerosF, bstr_size, List.length_replicate]
theorem key0 : badKey (zerosF 32) (zerosF 12) = false := by
  unfold badKey; rw [zerosF_size, zerosF_size]; rfl
theorem xorF_size (key nonce : ByteArray) (n : Int) (s : ByteArray) : (xorF key nonce n s).size = s.size := by
  rw [xorF, bstr_size, xoutF_len, bytesL_len]
theorem blockF_size (key nonce : ByteArray) (n : Int) : (blockF key nonce n).size = 64 := by
  rw [blockF, bstr_size, bytesF_len]
theorem block0 : seq ((blockF (zerosF 32) (zerosF 12) 0).extract 0 4) { data := { toList := [OfNat.ofNat 118, OfNat.ofNat 184, OfNat.ofNat 224, OfNat.ofNat 173] } } = true := by kernel_rfl
theorem xor0 : seq ((xorF (zerosF 32) (zerosF 12) 0 (zerosF 65)).extract 0 64) (blockF (zerosF 32) (zerosF 12) 0) = true := by kernel_rfl
theorem bc_f {p q : Prop} : bc false p q = q := rfl
theorem bc_t {p q : Prop} : bc true p q = p := rfl
theorem ob_t {p : Prop} : ob true p = p := rfl
theorem awake_ok : SpecOK Try.prog 18 awakeS := by
  have hS : SpecsOK Try.prog [(37, zerosS), (16, blockS), (19, xorS)] := SpecsOK.cons zeros_ok (SpecsOK.cons block_ok (SpecsOK.cons xor_ok SpecsOK.nil))
  refine q_of mixed hS Try.func18 rfl rfl fun args blks K h => ?_
  split at h
  · refine ⟨_, rfl, h, rfl, noI, ?_⟩
    rw [awake_vf]
    have hk := key0
    have hz := zerosF_size 65
    have hB := blockF_size (zerosF 32) (zerosF 12) 0
    have hX := (xorF_size (zerosF 32) (zerosF 12) 0 (zerosF 65)).trans hz
    have b0 := block0
    have x0 := xor0
    generalize xorF (zerosF 32) (zerosF 12) 0 (zerosF 65) = X at *
    generalize blockF (zerosF 32) (zerosF 12) 0 = B at *
    generalize seq (X.extract 0 64) B = c1 at *
    generalize seq (B.extract 0 4) { data := { toList := [OfNat.ofNat 118, OfNat.ofNat 184, OfNat.ofNat 224, OfNat.ofNat 173] } } = c2 at *
    generalize badKey (zerosF 32) (zerosF 12) = c3 at *
    subst hk b0 x0
    (repeat (first | (with_reducible refine ob_true ?_) | refine ob_mk (by first | (with_reducible exact beq_self_eq_true _) | (with_reducible exact nbeq _) | (with_reducible exact nble _) | (with_reducible exact seq_rfl _) | (with_reducible assumption) | (simp only [decide_eq_true_eq, Bool.and_eq_true, beq_iff_eq, Bool.true_and, Nat.beq_eq, Nat.ble_eq, hz]; first | done | omega)) ?_))
    rw [bc_f]
    (repeat (first | (with_reducible refine ob_true ?_) | refine ob_mk (by first | (with_reducible exact beq_self_eq_true _) | (with_reducible exact nbeq _) | (with_reducible exact nble _) | (with_reducible exact seq_rfl _) | (with_reducible assumption) | (simp only [decide_eq_true_eq, Bool.and_eq_true, beq_iff_eq, Bool.true_and, Nat.beq_eq, Nat.ble_eq, hz]; first | done | omega)) ?_))
    rw [bc_f]
    refine bc_mk (fun _ => ?_) (fun h => ?_)
    · (repeat (first | (with_reducible refine ob_true ?_) | refine ob_mk (by first | (with_reducible exact beq_self_eq_true _) | (with_reducible exact nbeq _) | (with_reducible exact nble _) | (with_reducible exact seq_rfl _) | (with_reducible assumption) | (simp only [decide_eq_true_eq, Bool.and_eq_true, beq_iff_eq, Bool.true_and, Nat.beq_eq, Nat.ble_eq, hB]; first | done | omega)) ?_))
      refine bc_mk (fun _ => ?_) (fun h => absurd h (by decide))
      refine bc_mk (fun _ => ?_) (fun h => ?_)
      · (repeat (first | (with_reducible refine ob_true ?_) | refine ob_mk (by first | (with_reducible exact beq_self_eq_true _) | (with_reducible exact nbeq _) | (with_reducible exact nble _) | (with_reducible exact seq_rfl _) | (with_reducible assumption) | (simp only [decide_eq_true_eq, Bool.and_eq_true, beq_iff_eq, Bool.true_and, Nat.beq_eq, Nat.ble_eq, hX]; first | done | omega)) ?_))
        refine bc_mk (fun _ => ⟨rfl, ⟨rfl, rfl⟩, rfl⟩) (fun h => absurd h (by decide))
      · exfalso; simp at h; omega
    · exfalso; simp at h; omega
  · exact h.elim
def blocksS : Spec := .q fun args blks K => match args, blks with
  | [.v (.string _), .v (.string _), .v (.int .u32 _)], [] => K (.v (.bool true))
  | _, _ => False
theorem blocks_ok : SpecOK Try.prog 3 blocksS := by
  have hS : SpecsOK Try.prog [(18, awakeS), (16, blockS), (17, blockS)] := SpecsOK.cons awake_ok (SpecsOK.cons block_ok (SpecsOK.cons rblock_ok SpecsOK.nil))
  refine q_of mixed hS Try.func3 rfl rfl fun args blks K h => ?_
  split at h
  · rename_i key nonce n
    refine ⟨_, rfl, h, rfl, noI, ?_⟩
    rw [blocks_vf]
    cases hk : badKey key nonce
    · simp only [bc_f, bc_t, ob_t, seq_rfl]
      exact (by repeat' (first | exact trivial | exact rfl | apply And.intro | (intro h; exact h)))
    · simp only [bc_f, bc_t, ob_t, seq_rfl]
      exact (by repeat' (first | exact trivial | exact rfl | apply And.intro | (intro h; exact h)))
  · exact h.elim
theorem xors_vf (key nonce : ByteArray) (n : Int) (s : ByteArray) (K : SV → List Blk → List Nat → Prop) : vf Try.prog [(18, awakeS), (19, xorS), (20, xorS)] (noI) Try.f4 [.agg [.v (.string key), .v (.string nonce), .v (.int .u32 n)], .v (.string s)] [] K =
  (bc (decide ((↑s.size : Int) > (3000 : Int))) (K (SV.v (Value.bool true)) [Blk.cells true [SV.v (Value.string key), SV.v (Value.string nonce), SV.v (Value.int IntKind.u32 n)]] []) (ob (decide ((0 : Int) ≤ n) && decide (n < (4294967296 : Int)) && decide (s.size ≤ (100000 : Nat))) (bc (badKey key nonce) (ob (decide ((0 : Int) ≤ n) && decide (n < (4294967296 : Int)) && decide (s.size ≤ (100000 : Nat))) (bc (badKey key nonce) (K (SV.v (Value.bool true)) [Blk.cells true [SV.v (Value.string key), SV.v (Value.string nonce), SV.v (Value.int IntKind.u32 n)]] []) (bc (seq { data := { toList := [] } } (xorF key nonce n s)) (K (SV.v (Value.bool false)) [Blk.cells true [SV.v (Value.string key), SV.v (Value.string nonce), SV.v (Value.int IntKind.u32 n)]] []) (K (SV.v (Value.bool false)) [Blk.cells true [SV.v (Value.string key), SV.v (Value.string nonce), SV.v (Value.int IntKind.u32 n)]] [])))) (ob (decide ((0 : Int) ≤ n) && decide (n < (4294967296 : Int)) && decide (s.size ≤ (100000 : Nat))) (bc (badKey key nonce) (bc (seq (xorF key nonce n s) { data := { toList := [] } }) (K (SV.v (Value.bool false)) [Blk.cells true [SV.v (Value.string key), SV.v (Value.string nonce), SV.v (Value.int IntKind.u32 n)]] []) (K (SV.v (Value.bool false)) [Blk.cells true [SV.v (Value.string key), SV.v (Value.string nonce), SV.v (Value.int IntKind.u32 n)]] [])) (bc (seq (xorF key nonce n s) (xorF key nonce n s)) (K (SV.v (Value.bool true)) [Blk.cells true [SV.v (Value.string key), SV.v (Value.string nonce), SV.v (Value.int IntKind.u32 n)]] []) (K (SV.v (Value.bool false)) [Blk.cells true [SV.v (Value.string key), SV.v (Value.string nonce), SV.v (Value.int IntKind.u32 n)]] []))))))) := by kernel_rfl
theorem twice_vf (key nonce : ByteArray) (n : Int) (s : ByteArray) (K : SV → List Blk → List Nat → Prop) : vf Try.prog [(18, awakeS), (19, xorS)] (noI) Try.f5 [.agg [.v (.string key), .v (.string nonce), .v (.int .u32 n)], .v (.string s)] [] K =
  (bc (decide ((↑s.size : Int) > (3000 : Int))) (K (SV.v (Value.bool true)) [Blk.cells true [SV.v (Value.string key), SV.v (Value.string nonce), SV.v (Value.int IntKind.u32 n)]] []) (ob (decide ((0 : Int) ≤ n) && decide (n < (4294967296 : Int)) && decide (s.size ≤ (100000 : Nat))) (bc (badKey key nonce) (ob (decide ((0 : Int) ≤ n) && decide (n < (4294967296 : Int)) && true) (bc (badKey key nonce) (bc ((↑key.size : Int) != (32 : Int)) (K (SV.v (Value.bool true)) [Blk.cells true [SV.v (Value.string key), SV.v (Value.string nonce), SV.v (Value.int IntKind.u32 n)]] []) (bc (bif false then true else (↑nonce.size : Int) != (12 : Int)) (K (SV.v (Value.bool true)) [Blk.cells true [SV.v (Value.string key), SV.v (Value.string nonce), SV.v (Value.int IntKind.u32 n)]] []) (K (SV.v (Value.bool false)) [Blk.cells true [SV.v (Value.string key), SV.v (Value.string nonce), SV.v (Value.int IntKind.u32 n)]] []))) (bc ((↑key.size : Int) != (32 : Int)) (K (SV.v (Value.bool false)) [Blk.cells true [SV.v (Value.string key), SV.v (Value.string nonce), SV.v (Value.int IntKind.u32 n)]] []) (bc (bif false then true else (↑nonce.size : Int) != (12 : Int)) (K (SV.v (Value.bool false)) [Blk.cells true [SV.v (Value.string key), SV.v (Value.string nonce), SV.v (Value.int IntKind.u32 n)]] []) (K (SV.v (Value.bool false)) [Blk.cells true [SV.v (Value.string key), SV.v (Value.string nonce), SV.v (Value.int IntKind.u32 n)]] []))))) (ob (decide ((0 : Int) ≤ n) && decide (n < (4294967296 : Int)) && decide ((xorF key nonce n s).size ≤ (100000 : Nat))) (bc (badKey key nonce) (bc ((↑key.size : Int) != (32 : Int)) (K (SV.v (Value.bool false)) [Blk.cells true [SV.v (Value.string key), SV.v (Value.string nonce), SV.v (Value.int IntKind.u32 n)]] []) (bc (bif false then true else (↑nonce.size : Int) != (12 : Int)) (K (SV.v (Value.bool false)) [Blk.cells true [SV.v (Value.string key), SV.v (Value.string nonce), SV.v (Value.int IntKind.u32 n)]] []) (K (SV.v (Value.bool false)) [Blk.cells true [SV.v (Value.string key), SV.v (Value.string nonce), SV.v (Value.int IntKind.u32 n)]] []))) (bc ((↑key.size : Int) != (32 : Int)) (K (SV.v (Value.bool false)) [Blk.cells true [SV.v (Value.string key), SV.v (Value.string nonce), SV.v (Value.int IntKind.u32 n)]] []) (bc (bif false then true else (↑nonce.size : Int) != (12 : Int)) (K (SV.v (Value.bool false)) [Blk.cells true [SV.v (Value.string key), SV.v (Value.string nonce), SV.v (Value.int IntKind.u32 n)]] []) (bc (bif true then seq (xorF key nonce n (xorF key nonce n s)) s else false) (bc (bif true then (↑(xorF key nonce n s).size : Int) == (↑s.size : Int) else false) (K (SV.v (Value.bool true)) [Blk.cells true [SV.v (Value.string key), SV.v (Value.string nonce), SV.v (Value.int IntKind.u32 n)]] []) (K (SV.v (Value.bool false)) [Blk.cells true [SV.v (Value.string key), SV.v (Value.string nonce), SV.v (Value.int IntKind.u32 n)]] [])) (K (SV.v (Value.bool false)) [Blk.cells true [SV.v (Value.string key), SV.v (Value.string nonce), SV.v (Value.int IntKind.u32 n)]] []))))))))) := by kernel_rfl
theorem parts_vf (key nonce : ByteArray) (n : Int) (s : ByteArray) (K : SV → List Blk → List Nat → Prop) : vf Try.prog [(18, awakeS), (19, xorS)] (noI) Try.f6 [.agg [.v (.string key), .v (.string nonce), .v (.int .u32 n)], .v (.string s)] [] K =
  (bc (decide ((↑s.size : Int) > (3000 : Int))) (K (SV.v (Value.bool true)) [Blk.cells true [SV.v (Value.string key), SV.v (Value.string nonce), SV.v (Value.int IntKind.u32 n)]] []) (bc (bif false then true else decide ((↑s.size : Int) < (64 : Int))) (K (SV.v (Value.bool true)) [Blk.cells true [SV.v (Value.string key), SV.v (Value.string nonce), SV.v (Value.int IntKind.u32 n)]] []) (ob (decide ((0 : Int) ≤ n) && decide (n < (4294967296 : Int)) && decide (s.size ≤ (100000 : Nat))) (bc (badKey key nonce) (ob (true && decide ((64 : Int) ≤ (↑s.size : Int))) (ob (decide ((0 : Int) ≤ n) && decide (n < (4294967296 : Int)) && decide ((s.extract (0 : Nat) (64 : Nat)).size ≤ (100000 : Nat))) (bc (badKey key nonce) (ob (true && decide ((64 : Int) ≤ (↑s.size : Int))) (ob (decide ((0 : Int) ≤ IntKind.u32.wrap (n + (1 : Int))) && decide (IntKind.u32.wrap (n + (1 : Int)) < (4294967296 : Int)) && decide ((s.extract (64 : Nat) s.size).size ≤ (100000 : Nat))) (bc (badKey key nonce) (ob true (K (SV.v (Value.bool true)) [Blk.cells true [SV.v (Value.string key), SV.v (Value.string nonce), SV.v (Value.int IntKind.u32 n)]] [])) (ob (decide ((0 : Nat) + (xorF key nonce (IntKind.u32.wrap (n + (1 : Int))) (s.extract (64 : Nat) s.size)).size ≤ (9223372036854775807 : Nat))) (bc (seq { data := { toList := [] } } ({ data := { toList := [] } } ++ xorF key nonce (IntKind.u32.wrap (n + (1 : Int))) (s.extract (64 : Nat) s.size))) (K (SV.v (Value.bool true)) [Blk.cells true [SV.v (Value.string key), SV.v (Value.string nonce), SV.v (Value.int IntKind.u32 n)]] []) (K (SV.v (Value.bool false)) [Blk.cells true [SV.v (Value.string key), SV.v (Value.string nonce), SV.v (Value.int IntKind.u32 n)]] [])))))) (ob (true && decide ((64 : Int) ≤ (↑s.size : Int))) (ob (decide ((0 : Int) ≤ IntKind.u32.wrap (n + (1 : Int))) && decide (IntKind.u32.wrap (n + (1 : Int)) < (4294967296 : Int)) && decide ((s.extract (64 : Nat) s.size).size ≤ (100000 : Nat))) (bc (badKey key nonce) (ob (decide ((xorF key nonce n (s.extract (0 : Nat) (64 : Nat))).size + (0 : Nat) ≤ (9223372036854775807 : Nat))) (bc (seq { data := { toList := [] } } (xorF key nonce n (s.extract (0 : Nat) (64 : Nat)) ++ { data := { toList := [] } })) (K (SV.v (Value.bool true)) [Blk.cells true [SV.v (Value.string key), SV.v (Value.string nonce), SV.v (Value.int IntKind.u32 n)]] []) (K (SV.v (Value.bool false)) [Blk.cells true [SV.v (Value.string key), SV.v (Value.string nonce), SV.v (Value.int IntKind.u32 n)]] []))) (ob (decide ((xorF key nonce n (s.extract (0 : Nat) (64 : Nat))).size + (xorF key nonce (IntKind.u32.wrap (n + (1 : Int))) (s.extract (64 : Nat) s.size)).size ≤ (9223372036854775807 : Nat))) (bc (seq { data := { toList := [] } } (xorF key nonce n (s.extract (0 : Nat) (64 : Nat)) ++ xorF key nonce (IntKind.u32.wrap (n + (1 : Int))) (s.extract (64 : Nat) s.size))) (K (SV.v (Value.bool true)) [Blk.cells true [SV.v (Value.string key), SV.v (Value.string nonce), SV.v (Value.int IntKind.u32 n)]] []) (K (SV.v (Value.bool false)) [Blk.cells true [SV.v (Value.string key), SV.v (Value.string nonce), SV.v (Value.int IntKind.u32 n)]] []))))))))) (ob (true && decide ((64 : Int) ≤ (↑s.size : Int))) (ob (decide ((0 : Int) ≤ n) && decide (n < (4294967296 : Int)) && decide ((s.extract (0 : Nat) (64 : Nat)).size ≤ (100000 : Nat))) (bc (badKey key nonce) (ob (true && decide ((64 : Int) ≤ (↑s.size : Int))) (ob (decide ((0 : Int) ≤ IntKind.u32.wrap (n + (1 : Int))) && decide (IntKind.u32.wrap (n + (1 : Int)) < (4294967296 : Int)) && decide ((s.extract (64 : Nat) s.size).size ≤ (100000 : Nat))) (bc (badKey key nonce) (ob true (bc (seq (xorF key nonce n s) ({ data := { toList := [] } } ++ { data := { toList := [] } })) (K (SV.v (Value.bool true)) [Blk.cells true [SV.v (Value.string key), SV.v (Value.string nonce), SV.v (Value.int IntKind.u32 n)]] []) (K (SV.v (Value.bool false)) [Blk.cells true [SV.v (Value.string key), SV.v (Value.string nonce), SV.v (Value.int IntKind.u32 n)]] []))) (ob (decide ((0 : Nat) + (xorF key nonce (IntKind.u32.wrap (n + (1 : Int))) (s.extract (64 : Nat) s.size)).size ≤ (9223372036854775807 : Nat))) (bc (seq (xorF key nonce n s) ({ data := { toList := [] } } ++ xorF key nonce (IntKind.u32.wrap (n + (1 : Int))) (s.extract (64 : Nat) s.size))) (K (SV.v (Value.bool true)) [Blk.cells true [SV.v (Value.string key), SV.v (Value.string nonce), SV.v (Value.int IntKind.u32 n)]] []) (K (SV.v (Value.bool false)) [Blk.cells true [SV.v (Value.string key), SV.v (Value.string nonce), SV.v (Value.int IntKind.u32 n)]] [])))))) (ob (true && decide ((64 : Int) ≤ (↑s.size : Int))) (ob (decide ((0 : Int) ≤ IntKind.u32.wrap (n + (1 : Int))) && decide (IntKind.u32.wrap (n + (1 : Int)) < (4294967296 : Int)) && decide ((s.extract (64 : Nat) s.size).size ≤ (100000 : Nat))) (bc (badKey key nonce) (ob (decide ((xorF key nonce n (s.extract (0 : Nat) (64 : Nat))).size + (0 : Nat) ≤ (9223372036854775807 : Nat))) (bc (seq (xorF key nonce n s) (xorF key nonce n (s.extract (0 : Nat) (64 : Nat)) ++ { data := { toList := [] } })) (K (SV.v (Value.bool true)) [Blk.cells true [SV.v (Value.string key), SV.v (Value.string nonce), SV.v (Value.int IntKind.u32 n)]] []) (K (SV.v (Value.bool false)) [Blk.cells true [SV.v (Value.string key), SV.v (Value.string nonce), SV.v (Value.int IntKind.u32 n)]] []))) (ob (decide ((xorF key nonce n (s.extract (0 : Nat) (64 : Nat))).size + (xorF key nonce (IntKind.u32.wrap (n + (1 : Int))) (s.extract (64 : Nat) s.size)).size ≤ (9223372036854775807 : Nat))) (bc (seq (xorF key nonce n s) (xorF key nonce n (s.extract (0 : Nat) (64 : Nat)) ++ xorF key nonce (IntKind.u32.wrap (n + (1 : Int))) (s.extract (64 : Nat) s.size))) (K (SV.v (Value.bool true)) [Blk.cells true [SV.v (Value.string key), SV.v (Value.string nonce), SV.v (Value.int IntKind.u32 n)]] []) (K (SV.v (Value.bool false)) [Blk.cells true [SV.v (Value.string key), SV.v (Value.string nonce), SV.v (Value.int IntKind.u32 n)]] []))))))))))))) := by kernel_rfl

end Go.Proofs.Ytinmllbkdjceaaa.Sx
