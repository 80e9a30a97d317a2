/- The sealed texts of the reference; the statements AeadSeals, AeadOpens. No condition. -/
import Derived.Test.YtinmllbkdjceaaaSx11
import Derived.Test.YtinmllbkdjceaaaProg
import Derived.Test.YtinmllbkdjceaaaBits
import Derived.Test.YtinmllbkdjceaaaWords
import Derived.Test.YtinmllbkdjceaaaChacha1
import Derived.Test.YtinmllbkdjceaaaChacha2
import Derived.Test.YtinmllbkdjceaaaChacha3
import Derived.Test.YtinmllbkdjceaaaChacha4
import Derived.Test.YtinmllbkdjceaaaChacha5
import Derived.Test.YtinmllbkdjceaaaChacha6
import Derived.Test.YtinmllbkdjceaaaPoly1
import Derived.Test.YtinmllbkdjceaaaPoly2
import Derived.Test.YtinmllbkdjceaaaPoly3
import Derived.Test.YtinmllbkdjceaaaPoly4
import Derived.Test.YtinmllbkdjceaaaPoly5
import Derived.Test.YtinmllbkdjceaaaPoly6
import Derived.Test.YtinmllbkdjceaaaLaw10
import Derived.Test.YtinmllbkdjceaaaLaw10b
import Derived.Test.YtinmllbkdjceaaaRef1
import Derived.Test.YtinmllbkdjceaaaRef10
import Derived.Test.YtinmllbkdjceaaaRef10b
import Derived.Test.YtinmllbkdjceaaaRef10c
import Derived.Test.YtinmllbkdjceaaaAead1
import Derived.Test.YtinmllbkdjceaaaAead2
namespace Go.Proofs.Ytinmllbkdjceaaa.Sx
open Go Go.Proofs
set_option maxRecDepth 100000
set_option linter.unusedSimpArgs false
set_option linter.unusedVariables false

theorem rzeros_vf (n : Int) (K : SV → List Blk → List Nat → Prop) : vf Try.prog [] (noI) Try.f65 [.v (.int .i64 n)] [] K =
  (ob true (ob true (ob (decide ((0 : Int) ≤ (IntKind.i64.wrap ((16 : Int) - n.tmod (16 : Int))).tmod (16 : Int)) && decide ((IntKind.i64.wrap ((16 : Int) - n.tmod (16 : Int))).tmod (16 : Int) ≤ (IntKind.i64.wrap ((16 : Int) - n.tmod (16 : Int))).tmod (16 : Int)) && decide ((1 : Int) * (IntKind.i64.wrap ((16 : Int) - n.tmod (16 : Int))).tmod (16 : Int) ≤ (281474976710656 : Int)) && decide ((IntKind.i64.wrap ((16 : Int) - n.tmod (16 : Int))).tmod (16 : Int) ≤ (9223372036854775807 : Int))) (ob (decide ((0 : Nat) + ((IntKind.i64.wrap ((16 : Int) - n.tmod (16 : Int))).tmod (16 : Int)).toNat ≤ (List.replicate ((IntKind.i64.wrap ((16 : Int) - n.tmod (16 : Int))).tmod (16 : Int)).toNat (0 : Int)).length)) (K (SV.v (Value.string (bstr (List.take ((IntKind.i64.wrap ((16 : Int) - n.tmod (16 : Int))).tmod (16 : Int)).toNat (List.drop (0 : Nat) (List.replicate ((IntKind.i64.wrap ((16 : Int) - n.tmod (16 : Int))).tmod (16 : Int)).toNat (0 : Int))))))) [Blk.ints true IntKind.u8 (List.replicate ((IntKind.i64.wrap ((16 : Int) - n.tmod (16 : Int))).tmod (16 : Int)).toNat (0 : Int))] []))))) := by kernel_rfl
theorem rlength_vf (n : Int) (K : SV → List Blk → List Nat → Prop) : vf Try.prog [] (fun _ _ => .unroll 10) Try.f66 [.v (.int .i64 n)] [] K =
  (ob true (ob true (ob true (ob true (ob true (ob true (ob true (ob true (ob true (ob true (ob true (ob true (ob true (ob true (ob true (ob true (ob true (ob true (ob true (ob true (ob true (ob true (ob true (ob true (ob true (ob true (ob true (ob true (ob true (ob true (ob true (ob true (ob true (K (SV.v (Value.string (bstr [IntKind.u8.wrap (ishr IntKind.i64 n (0 : Int)), IntKind.u8.wrap (ishr IntKind.i64 n (8 : Int)), IntKind.u8.wrap (ishr IntKind.i64 n (16 : Int)), IntKind.u8.wrap (ishr IntKind.i64 n (24 : Int)), IntKind.u8.wrap (ishr IntKind.i64 n (32 : Int)), IntKind.u8.wrap (ishr IntKind.i64 n (40 : Int)), IntKind.u8.wrap (ishr IntKind.i64 n (48 : Int)), IntKind.u8.wrap (ishr IntKind.i64 n (56 : Int))]))) [Blk.ints true IntKind.u8 [IntKind.u8.wrap (ishr IntKind.i64 n (0 : Int))], Blk.ints true IntKind.u8 [IntKind.u8.wrap (ishr IntKind.i64 n (0 : Int)), IntKind.u8.wrap (ishr IntKind.i64 n (8 : Int)), IntKind.u8.wrap (ishr IntKind.i64 n (16 : Int)), IntKind.u8.wrap (ishr IntKind.i64 n (24 : Int)), IntKind.u8.wrap (ishr IntKind.i64 n (32 : Int)), IntKind.u8.wrap (ishr IntKind.i64 n (40 : Int)), IntKind.u8.wrap (ishr IntKind.i64 n (48 : Int)), IntKind.u8.wrap (ishr IntKind.i64 n (56 : Int))], Blk.ints true IntKind.u8 [IntKind.u8.wrap (ishr IntKind.i64 n (8 : Int))], Blk.ints true IntKind.u8 [IntKind.u8.wrap (ishr IntKind.i64 n (16 : Int))], Blk.ints true IntKind.u8 [IntKind.u8.wrap (ishr IntKind.i64 n (24 : Int))], Blk.ints true IntKind.u8 [IntKind.u8.wrap (ishr IntKind.i64 n (32 : Int))], Blk.ints true IntKind.u8 [IntKind.u8.wrap (ishr IntKind.i64 n (40 : Int))], Blk.ints true IntKind.u8 [IntKind.u8.wrap (ishr IntKind.i64 n (48 : Int))], Blk.ints true IntKind.u8 [IntKind.u8.wrap (ishr IntKind.i64 n (56 : Int))]] [])))))))))))))))))))))))))))))))))) := by kernel_rfl
def rtagS : Spec := .q fun args blks K => match args, blks with
  | [.v (.string key), .v (.string nonce), .v (.string s), .v (.string more)], [] => ob (!badKey key nonce && decide (s.size ≤ 10000) && decide (more.size ≤ 10000)) (K (.v (.string (sumF key nonce s more))))
  | _, _ => False
theorem rtag_vf (key nonce s more : ByteArray) (K : SV → List Blk → List Nat → Prop) : vf Try.prog [(17, blockG), (23, macS), (65, fillZ), (66, lengthZ)] (noI) Try.f50 [.v (.string key), .v (.string nonce), .v (.string s), .v (.string more)] [] K =
  (ob (!badKey key nonce) (ob (true && decide ((32 : Int) ≤ (↑(blockF key nonce (0 : Int)).size : Int))) (ob (true && decide ((↑more.size : Int) ≤ (100000 : Int))) (ob (decide (more.size + (fillF (↑more.size : Int).toNat).size ≤ (9223372036854775807 : Nat))) (ob (decide ((more ++ fillF (↑more.size : Int).toNat).size + s.size ≤ (9223372036854775807 : Nat))) (ob (true && decide ((↑s.size : Int) ≤ (100000 : Int))) (ob (decide ((more ++ fillF (↑more.size : Int).toNat ++ s).size + (fillF (↑s.size : Int).toNat).size ≤ (9223372036854775807 : Nat))) (ob (true && decide ((↑more.size : Int) ≤ (100000 : Int))) (ob (decide ((more ++ fillF (↑more.size : Int).toNat ++ s ++ fillF (↑s.size : Int).toNat).size + (lenF (↑more.size : Int).toNat).size ≤ (9223372036854775807 : Nat))) (ob (true && decide ((↑s.size : Int) ≤ (100000 : Int))) (ob (decide ((more ++ fillF (↑more.size : Int).toNat ++ s ++ fillF (↑s.size : Int).toNat ++ lenF (↑more.size : Int).toNat).size + (lenF (↑s.size : Int).toNat).size ≤ (9223372036854775807 : Nat))) (ob (decide ((more ++ fillF (↑more.size : Int).toNat ++ s ++ fillF (↑s.size : Int).toNat ++ lenF (↑more.size : Int).toNat ++ lenF (↑s.size : Int).toNat).size ≤ (100000 : Nat))) (bc (badK ((blockF key nonce (0 : Int)).extract (0 : Nat) (32 : Nat))) (K (SV.v (Value.string { data := { toList := [] } })) [] []) (K (SV.v (Value.string (macF ((blockF key nonce (0 : Int)).extract (0 : Nat) (32 : Nat)) (more ++ fillF (↑more.size : Int).toNat ++ s ++ fillF (↑s.size : Int).toNat ++ lenF (↑more.size : Int).toNat ++ lenF (↑s.size : Int).toNat)))) [] [])))))))))))))) := by kernel_rfl
theorem rseal_vf (key nonce s more : ByteArray) (K : SV → List Blk → List Nat → Prop) : vf Try.prog [(20, xorS), (50, rtagS)] (noI) Try.f30 [.v (.string key), .v (.string nonce), .v (.string s), .v (.string more)] [] K =
  (ob (true && decide (s.size ≤ (100000 : Nat))) (bc (badKey key nonce) (K (SV.tup [SV.v (Value.string { data := { toList := [] } }), SV.v (Value.int IntKind.i64 (2 : Int))]) [] []) (ob (!badKey key nonce && decide ((xorF key nonce (1 : Int) s).size ≤ (10000 : Nat)) && decide (more.size ≤ (10000 : Nat))) (ob (decide ((xorF key nonce (1 : Int) s).size + (sumF key nonce (xorF key nonce (1 : Int) s) more).size ≤ (9223372036854775807 : Nat))) (K (SV.tup [SV.v (Value.string (xorF key nonce (1 : Int) s ++ sumF key nonce (xorF key nonce (1 : Int) s) more)), SV.v (Value.int IntKind.i64 (0 : Int))]) [] []))))) := by kernel_rfl
theorem ropen_vf (key nonce s more : ByteArray) (K : SV → List Blk → List Nat → Prop) : vf Try.prog [(20, xorS), (50, rtagS)] (noI) Try.f32 [.v (.string key), .v (.string nonce), .v (.string s), .v (.string more)] [] K =
  (bc (decide ((↑s.size : Int) < (16 : Int))) (K (SV.tup [SV.v (Value.string { data := { toList := [] } }), SV.v (Value.int IntKind.i64 (2 : Int))]) [] []) (bc (bif false then true else (↑key.size : Int) != (32 : Int)) (K (SV.tup [SV.v (Value.string { data := { toList := [] } }), SV.v (Value.int IntKind.i64 (2 : Int))]) [] []) (bc (bif false then true else (↑nonce.size : Int) != (12 : Int)) (K (SV.tup [SV.v (Value.string { data := { toList := [] } }), SV.v (Value.int IntKind.i64 (2 : Int))]) [] []) (ob (decide ((0 : Int) ≤ IntKind.i64.wrap ((↑s.size : Int) - (16 : Int))) && decide (IntKind.i64.wrap ((↑s.size : Int) - (16 : Int)) ≤ (↑s.size : Int))) (ob (!badKey key nonce && decide ((s.extract (0 : Nat) (IntKind.i64.wrap ((↑s.size : Int) - (16 : Int))).toNat).size ≤ (10000 : Nat)) && decide (more.size ≤ (10000 : Nat))) (ob (decide ((0 : Int) ≤ IntKind.i64.wrap ((↑s.size : Int) - (16 : Int))) && decide (IntKind.i64.wrap ((↑s.size : Int) - (16 : Int)) ≤ (↑s.size : Int))) (bc (!seq (sumF key nonce (s.extract (0 : Nat) (IntKind.i64.wrap ((↑s.size : Int) - (16 : Int))).toNat) more) (s.extract (IntKind.i64.wrap ((↑s.size : Int) - (16 : Int))).toNat s.size)) (K (SV.tup [SV.v (Value.string { data := { toList := [] } }), SV.v (Value.int IntKind.i64 (4 : Int))]) [] []) (ob (true && decide ((s.extract (0 : Nat) (IntKind.i64.wrap ((↑s.size : Int) - (16 : Int))).toNat).size ≤ (100000 : Nat))) (bc (badKey key nonce) (K (SV.tup [SV.v (Value.string { data := { toList := [] } }), SV.v (Value.int IntKind.i64 (0 : Int))]) [] []) (K (SV.tup [SV.v (Value.string (xorF key nonce (1 : Int) (s.extract (0 : Nat) (IntKind.i64.wrap ((↑s.size : Int) - (16 : Int))).toNat))), SV.v (Value.int IntKind.i64 (0 : Int))]) [] [])))))))))) := by kernel_rfl
theorem seals_vf (key nonce more s : ByteArray) (K : SV → List Blk → List Nat → Prop) : vf Try.prog [(28, awake11S), (27, few11S), (29, sealS), (30, sealS)] (noI) Try.f11 [.agg [.v (.string key), .v (.string nonce), .v (.string more)], .v (.string s)] [] K =
  (bc (!(decide (more.size ≤ (1000 : Nat)) && decide (s.size ≤ (2000 : Nat)))) (K (SV.v (Value.bool true)) [Blk.cells true [SV.v (Value.string key), SV.v (Value.string nonce), SV.v (Value.string more)]] []) (ob (decide (s.size ≤ (10000 : Nat)) && decide (more.size ≤ (10000 : Nat))) (bc (badKey key nonce) (ob (decide (s.size ≤ (10000 : Nat)) && decide (more.size ≤ (10000 : Nat))) (bc (badKey key nonce) (K (SV.v (Value.bool true)) [Blk.cells true [SV.v (Value.string key), SV.v (Value.string nonce), SV.v (Value.string more)]] []) (bc (seq { data := { toList := [] } } (sealF key nonce s more)) (K (SV.v (Value.bool false)) [Blk.cells true [SV.v (Value.string key), SV.v (Value.string nonce), SV.v (Value.string more)]] []) (K (SV.v (Value.bool false)) [Blk.cells true [SV.v (Value.string key), SV.v (Value.string nonce), SV.v (Value.string more)]] [])))) (ob (decide (s.size ≤ (10000 : Nat)) && decide (more.size ≤ (10000 : Nat))) (bc (badKey key nonce) (bc (seq (sealF key nonce s more) { data := { toList := [] } }) (K (SV.v (Value.bool false)) [Blk.cells true [SV.v (Value.string key), SV.v (Value.string nonce), SV.v (Value.string more)]] []) (K (SV.v (Value.bool false)) [Blk.cells true [SV.v (Value.string key), SV.v (Value.string nonce), SV.v (Value.string more)]] [])) (bc (seq (sealF key nonce s more) (sealF key nonce s more)) (K (SV.v (Value.bool true)) [Blk.cells true [SV.v (Value.string key), SV.v (Value.string nonce), SV.v (Value.string more)]] []) (K (SV.v (Value.bool false)) [Blk.cells true [SV.v (Value.string key), SV.v (Value.string nonce), SV.v (Value.string more)]] []))))))) := by kernel_rfl
theorem opens_vf (key nonce more s : ByteArray) (K : SV → List Blk → List Nat → Prop) : vf Try.prog [(28, awake11S), (27, few11S), (31, openS), (32, openS)] (noI) Try.f12 [.agg [.v (.string key), .v (.string nonce), .v (.string more)], .v (.string s)] [] K =
  (bc (!(decide (more.size ≤ (1000 : Nat)) && decide (s.size ≤ (2000 : Nat)))) (K (SV.v (Value.bool true)) [Blk.cells true [SV.v (Value.string key), SV.v (Value.string nonce), SV.v (Value.string more)]] []) (ob (decide (s.size ≤ (10000 : Nat)) && decide (more.size ≤ (10000 : Nat))) (bc (decide (s.size < (16 : Nat))) (ob (decide (s.size ≤ (10000 : Nat)) && decide (more.size ≤ (10000 : Nat))) (bc (decide (s.size < (16 : Nat))) (K (SV.v (Value.bool true)) [Blk.cells true [SV.v (Value.string key), SV.v (Value.string nonce), SV.v (Value.string more)]] []) (bc (badKey key nonce) (K (SV.v (Value.bool true)) [Blk.cells true [SV.v (Value.string key), SV.v (Value.string nonce), SV.v (Value.string more)]] []) (bc (seq (sumF key nonce (bodyB s) more) (tailB s)) (bc (seq { data := { toList := [] } } (xorF key nonce (1 : Int) (bodyB s))) (K (SV.v (Value.bool false)) [Blk.cells true [SV.v (Value.string key), SV.v (Value.string nonce), SV.v (Value.string more)]] []) (K (SV.v (Value.bool false)) [Blk.cells true [SV.v (Value.string key), SV.v (Value.string nonce), SV.v (Value.string more)]] [])) (K (SV.v (Value.bool false)) [Blk.cells true [SV.v (Value.string key), SV.v (Value.string nonce), SV.v (Value.string more)]] []))))) (bc (badKey key nonce) (ob (decide (s.size ≤ (10000 : Nat)) && decide (more.size ≤ (10000 : Nat))) (bc (decide (s.size < (16 : Nat))) (K (SV.v (Value.bool true)) [Blk.cells true [SV.v (Value.string key), SV.v (Value.string nonce), SV.v (Value.string more)]] []) (bc (badKey key nonce) (K (SV.v (Value.bool true)) [Blk.cells true [SV.v (Value.string key), SV.v (Value.string nonce), SV.v (Value.string more)]] []) (bc (seq (sumF key nonce (bodyB s) more) (tailB s)) (bc (seq { data := { toList := [] } } (xorF key nonce (1 : Int) (bodyB s))) (K (SV.v (Value.bool false)) [Blk.cells true [SV.v (Value.string key), SV.v (Value.string nonce), SV.v (Value.string more)]] []) (K (SV.v (Value.bool false)) [Blk.cells true [SV.v (Value.string key), SV.v (Value.string nonce), SV.v (Value.string more)]] [])) (K (SV.v (Value.bool false)) [Blk.cells true [SV.v (Value.string key), SV.v (Value.string nonce), SV.v (Value.string more)]] []))))) (bc (seq (sumF key nonce (bodyB s) more) (tailB s)) (ob (decide (s.size ≤ (10000 : Nat)) && decide (more.size ≤ (10000 : Nat))) (bc (decide (s.size < (16 : Nat))) (bc (seq (xorF key nonce (1 : Int) (bodyB s)) { data := { toList := [] } }) (K (SV.v (Value.bool false)) [Blk.cells true [SV.v (Value.string key), SV.v (Value.string nonce), SV.v (Value.string more)]] []) (K (SV.v (Value.bool false)) [Blk.cells true [SV.v (Value.string key), SV.v (Value.string nonce), SV.v (Value.string more)]] [])) (bc (badKey key nonce) (bc (seq (xorF key nonce (1 : Int) (bodyB s)) { data := { toList := [] } }) (K (SV.v (Value.bool false)) [Blk.cells true [SV.v (Value.string key), SV.v (Value.string nonce), SV.v (Value.string more)]] []) (K (SV.v (Value.bool false)) [Blk.cells true [SV.v (Value.string key), SV.v (Value.string nonce), SV.v (Value.string more)]] [])) (bc (seq (sumF key nonce (bodyB s) more) (tailB s)) (bc (seq (xorF key nonce (1 : Int) (bodyB s)) (xorF key nonce (1 : Int) (bodyB s))) (K (SV.v (Value.bool true)) [Blk.cells true [SV.v (Value.string key), SV.v (Value.string nonce), SV.v (Value.string more)]] []) (K (SV.v (Value.bool false)) [Blk.cells true [SV.v (Value.string key), SV.v (Value.string nonce), SV.v (Value.string more)]] [])) (bc (seq (xorF key nonce (1 : Int) (bodyB s)) { data := { toList := [] } }) (K (SV.v (Value.bool false)) [Blk.cells true [SV.v (Value.string key), SV.v (Value.string nonce), SV.v (Value.string more)]] []) (K (SV.v (Value.bool false)) [Blk.cells true [SV.v (Value.string key), SV.v (Value.string nonce), SV.v (Value.string more)]] [])))))) (ob (decide (s.size ≤ (10000 : Nat)) && decide (more.size ≤ (10000 : Nat))) (bc (decide (s.size < (16 : Nat))) (K (SV.v (Value.bool false)) [Blk.cells true [SV.v (Value.string key), SV.v (Value.string nonce), SV.v (Value.string more)]] []) (bc (badKey key nonce) (K (SV.v (Value.bool false)) [Blk.cells true [SV.v (Value.string key), SV.v (Value.string nonce), SV.v (Value.string more)]] []) (bc (seq (sumF key nonce (bodyB s) more) (tailB s)) (bc (seq { data := { toList := [] } } (xorF key nonce (1 : Int) (bodyB s))) (K (SV.v (Value.bool false)) [Blk.cells true [SV.v (Value.string key), SV.v (Value.string nonce), SV.v (Value.string more)]] []) (K (SV.v (Value.bool false)) [Blk.cells true [SV.v (Value.string key), SV.v (Value.string nonce), SV.v (Value.string more)]] [])) (K (SV.v (Value.bool true)) [Blk.cells true [SV.v (Value.string key), SV.v (Value.string nonce), SV.v (Value.string more)]] [])))))))))) := by kernel_rfl
theorem rzeros_ok : SpecOK Try.prog 65 fillZ := by
  refine q_of mixed SpecsOK.nil Try.func65 rfl rfl fun args blks K h => ?_
  split at h
  · rename_i n
    rw [ob_iff] at h
    obtain ⟨hb, hg⟩ := h
    simp only [Bool.and_eq_true, decide_eq_true_eq] at hb
    refine ⟨_, rfl, hg, rfl, noI, ?_⟩
    rw [rzeros_vf]
    obtain ⟨m, rfl⟩ := Int.eq_ofNat_of_zero_le hb.1
    have e : (IntKind.i64.wrap (16 - (m : Int).tmod 16)).tmod 16 = (((16 - m % 16) % 16 : Nat) : Int) := by
      rw [show (m : Int).tmod 16 = ((m % 16 : Nat) : Int) from rfl, wrap_i64 _ (by omega) (by omega), Int.tmod_eq_emod_of_nonneg (by omega)]; omega
    have hF : fillF m = bstr (List.replicate ((16 - m % 16) % 16) 0) := by rw [fillF]
    rw [e, Int.toNat_natCast, Int.toNat_natCast]
    have hlt : (16 - m % 16) % 16 < 16 := by omega
    generalize (16 - m % 16) % 16 = j at *
    have hlen : (List.replicate j (0 : Int)).length = j := List.length_replicate
    clear e hb
    (repeat (first | (with_reducible refine ob_true ?_) | refine ob_mk (by first | (with_reducible exact beq_self_eq_true _) | (with_reducible exact nbeq _) | (with_reducible exact nble _) | (with_reducible exact seq_rfl _) | (with_reducible assumption) | (simp only [decide_eq_true_eq, Bool.and_eq_true, beq_iff_eq, Bool.true_and, Bool.and_true, Nat.beq_eq, Nat.ble_eq, true_and, and_true, ge_iff_le, gt_iff_lt, hlen]; first | done | omega)) ?_))
    refine ⟨?_, (by repeat' (first | exact trivial | exact rfl | apply And.intro | (intro h; exact h)))⟩
    rw [hF, List.drop_zero, List.take_of_length_le (by rw [hlen]; omega)]
  · exact h.elim
theorem rlength_ok : SpecOK Try.prog 66 lengthZ := by
  refine q_of mixed SpecsOK.nil Try.func66 rfl rfl fun args blks K h => ?_
  split at h
  · rename_i n
    rw [ob_iff] at h
    obtain ⟨hb, hg⟩ := h
    simp only [Bool.and_eq_true, decide_eq_true_eq] at hb
    refine ⟨_, rfl, hg, rfl, (fun _ _ => .unroll 10), ?_⟩
    rw [rlength_vf]
    obtain ⟨m, rfl⟩ := Int.eq_ofNat_of_zero_le hb.1
    rw [Int.toNat_natCast, lenF, len_list]
    simp only [ob_t]
    exact (by repeat' (first | exact trivial | exact rfl | apply And.intro | (intro h; exact h)))
  · exact h.elim
theorem rtag_ok : SpecOK Try.prog 50 rtagS := by
  have hS : SpecsOK Try.prog [(17, blockG), (23, macS), (65, fillZ), (66, lengthZ)] := SpecsOK.cons rblockG_ok (SpecsOK.cons rMac_ok (SpecsOK.cons rzeros_ok (SpecsOK.cons rlength_ok SpecsOK.nil)))
  refine q_of mixed hS Try.func50 rfl rfl fun args blks K h => ?_
  split at h
  · rename_i key nonce s more
    rw [ob_iff] at h
    obtain ⟨hb, hg⟩ := h
    simp only [Bool.and_eq_true, decide_eq_true_eq] at hb
    obtain ⟨⟨hk, hs⟩, hm⟩ := hb
    refine ⟨_, rfl, hg, rfl, noI, ?_⟩
    rw [rtag_vf]
    have z0 := blkF_size key nonce 0
    have z1 : ((blockF key nonce 0).extract 0 32).size = 32 := by rw [ByteArray.size_extract]; omega
    have z2 : badK ((blockF key nonce 0).extract 0 32) = false := by unfold badK; rw [z1]; rfl
    have f1 := fillF_size more.size
    have f2 := fillF_size s.size
    have l1 := lenF_size more.size
    have l2 := lenF_size s.size
    have hF : sumF key nonce s more = macF ((blockF key nonce 0).extract 0 32) (more ++ fillF more.size ++ s ++ fillF s.size ++ lenF more.size ++ lenF s.size) := by rw [sumF, macText]
    rw [Int.toNat_natCast, Int.toNat_natCast, ← hF, z0, z2, hk]
    clear hF z2 z1
    simp only [ByteArray.size_append, l1, l2, f1, f2]
    have g1 : (16 - more.size % 16) % 16 < 16 := by omega
    have g2 : (16 - s.size % 16) % 16 < 16 := by omega
    clear f1 f2 l1 l2
    generalize (16 - more.size % 16) % 16 = p at *
    generalize (16 - s.size % 16) % 16 = q at *
    (repeat (first | (with_reducible refine ob_true ?_) | refine ob_mk (by first | (with_reducible exact beq_self_eq_true _) | (with_reducible exact nbeq _) | (with_reducible exact nble _) | (with_reducible exact seq_rfl _) | (with_reducible assumption) | (simp only [decide_eq_true_eq, Bool.and_eq_true, beq_iff_eq, Bool.true_and, Bool.and_true, Nat.beq_eq, Nat.ble_eq, true_and, and_true, ge_iff_le, gt_iff_lt]; first | done | omega)) ?_))
    exact (by repeat' (first | exact trivial | exact rfl | apply And.intro | (intro h; exact h)))
  · exact h.elim
theorem rseal_ok : SpecOK Try.prog 30 sealS := by
  have hS : SpecsOK Try.prog [(20, xorS), (50, rtagS)] := SpecsOK.cons rxor_ok (SpecsOK.cons rtag_ok SpecsOK.nil)
  refine q_of mixed hS Try.func30 rfl rfl fun args blks K h => ?_
  split at h
  · rename_i key nonce s more
    rw [ob_iff, bc_iff] at h
    obtain ⟨hs, hb, hg⟩ := h
    simp only [Bool.and_eq_true, decide_eq_true_eq] at hs
    have z1 := xorSz key nonce 1 s
    have z2 := sumSz key nonce (xorF key nonce 1 s) more
    have hF : sealF key nonce s more = xorF key nonce 1 s ++ sumF key nonce (xorF key nonce 1 s) more := by rw [sealF]
    by_cases hk : badKey key nonce = true
    · refine ⟨_, rfl, hb hk, rfl, noI, ?_⟩
      rw [rseal_vf, hk]
      (repeat (first | (with_reducible refine ob_true ?_) | refine ob_mk (by first | (with_reducible exact beq_self_eq_true _) | (with_reducible exact nbeq _) | (with_reducible exact nble _) | (with_reducible exact seq_rfl _) | (with_reducible assumption) | (simp only [decide_eq_true_eq, Bool.and_eq_true, beq_iff_eq, Bool.true_and, Bool.and_true, Nat.beq_eq, Nat.ble_eq, true_and, and_true, ge_iff_le, gt_iff_lt]; first | done | omega)) ?_))
      exact (by repeat' (first | exact trivial | exact rfl | apply And.intro | (intro h; exact h)))
    · rw [Bool.not_eq_true] at hk
      refine ⟨_, rfl, hg hk, rfl, noI, ?_⟩
      rw [rseal_vf, hk, z2, z1, ← hF]
      clear hF
      (repeat (first | (with_reducible refine ob_true ?_) | refine ob_mk (by first | (with_reducible exact beq_self_eq_true _) | (with_reducible exact nbeq _) | (with_reducible exact nble _) | (with_reducible exact seq_rfl _) | (with_reducible assumption) | (simp only [decide_eq_true_eq, Bool.and_eq_true, beq_iff_eq, Bool.true_and, Bool.and_true, Nat.beq_eq, Nat.ble_eq, true_and, and_true, ge_iff_le, gt_iff_lt]; first | done | omega)) ?_))
      try rw [bc_f]
      (repeat (first | (with_reducible refine ob_true ?_) | refine ob_mk (by first | (with_reducible exact beq_self_eq_true _) | (with_reducible exact nbeq _) | (with_reducible exact nble _) | (with_reducible exact seq_rfl _) | (with_reducible assumption) | (simp only [decide_eq_true_eq, Bool.and_eq_true, beq_iff_eq, Bool.true_and, Bool.and_true, Nat.beq_eq, Nat.ble_eq, true_and, and_true, ge_iff_le, gt_iff_lt, Bool.not_false]; first | done | omega)) ?_))
      exact (by repeat' (first | exact trivial | exact rfl | apply And.intro | (intro h; exact h)))
  · exact h.elim
theorem ropen_ok : SpecOK Try.prog 32 openS := by
  have hS : SpecsOK Try.prog [(20, xorS), (50, rtagS)] := SpecsOK.cons rxor_ok (SpecsOK.cons rtag_ok SpecsOK.nil)
  refine q_of mixed hS Try.func32 rfl rfl fun args blks K h => ?_
  split at h
  · rename_i key nonce s more
    rw [ob_iff, bc_iff] at h
    obtain ⟨hs, hsm, hbig⟩ := h
    simp only [Bool.and_eq_true, decide_eq_true_eq] at hs
    have w : IntKind.i64.wrap ((s.size : Int) - 16) = (s.size : Int) - 16 := by rw [wrap_i64 _ (by omega) (by omega)]
    by_cases h16 : s.size < 16
    · refine ⟨_, rfl, hsm (decide_eq_true h16), rfl, noI, ?_⟩
      rw [ropen_vf, w]
      refine bc_mk (fun _ => (by repeat' (first | exact trivial | exact rfl | apply And.intro | (intro h; exact h)))) (fun h => ?_)
      have := of_decide_eq_false h
      exfalso; omega
    · have hbig := hbig (decide_eq_false h16)
      rw [bc_iff, bc_iff] at hbig
      obtain ⟨hb, hg⟩ := hbig
      have e1 : s.extract 0 ((s.size : Int) - 16).toNat = bodyB s := by rw [bodyB]; exact congrArg _ (by omega)
      have e2 : s.extract ((s.size : Int) - 16).toNat s.size = tailB s := by rw [tailB]; exact congrArg (fun i => s.extract i s.size) (by omega)
      have z1 : (bodyB s).size = s.size - 16 := by rw [bodyB, ByteArray.size_extract]; omega
      have hlt : decide ((s.size : Int) < 16) = false := decide_eq_false (by omega)
      by_cases hk : badKey key nonce = true
      · refine ⟨_, rfl, hb hk, rfl, noI, ?_⟩
        have hb := badKey_true hk
        rw [ropen_vf, hlt, bc_f]
        refine bc_mk (fun _ => (by repeat' (first | exact trivial | exact rfl | apply And.intro | (intro h; exact h)))) (fun h1 => bc_mk (fun _ => (by repeat' (first | exact trivial | exact rfl | apply And.intro | (intro h; exact h)))) (fun h2 => ?_))
        exfalso
        simp at h1 h2
        exact hb (by omega) (by omega)
      · rw [Bool.not_eq_true] at hk
        obtain ⟨hg1, hg2⟩ := hg hk
        obtain ⟨k1, k2⟩ := badKey_false hk
        by_cases hq : seq (sumF key nonce (bodyB s) more) (tailB s) = true
        · refine ⟨_, rfl, hg1 hq, rfl, noI, ?_⟩
          rw [ropen_vf, w, e1, e2, z1, hlt, hk, hq, bc_f]
          refine bc_mk (fun h3 => ?_) (fun _ => bc_mk (fun h3 => ?_) (fun _ => ?_))
          · exfalso; simp at h3; omega
          · exfalso; simp at h3; omega
          · clear e1 e2 z1 hlt
            (repeat (first | (with_reducible refine ob_true ?_) | refine ob_mk (by first | (with_reducible exact beq_self_eq_true _) | (with_reducible exact nbeq _) | (with_reducible exact nble _) | (with_reducible exact seq_rfl _) | (with_reducible assumption) | (simp only [decide_eq_true_eq, Bool.and_eq_true, beq_iff_eq, Bool.true_and, Bool.and_true, Nat.beq_eq, Nat.ble_eq, true_and, and_true, ge_iff_le, gt_iff_lt, Bool.not_false]; first | done | omega)) ?_))
            try rw [bc_f]
            (repeat (first | (with_reducible refine ob_true ?_) | refine ob_mk (by first | (with_reducible exact beq_self_eq_true _) | (with_reducible exact nbeq _) | (with_reducible exact nble _) | (with_reducible exact seq_rfl _) | (with_reducible assumption) | (simp only [decide_eq_true_eq, Bool.and_eq_true, beq_iff_eq, Bool.true_and, Bool.and_true, Nat.beq_eq, Nat.ble_eq, true_and, and_true, ge_iff_le, gt_iff_lt]; first | done | omega)) ?_))
            try rw [bc_f]
            exact (by repeat' (first | exact trivial | exact rfl | apply And.intro | (intro h; exact h)))
        · rw [Bool.not_eq_true] at hq
          refine ⟨_, rfl, hg2 hq, rfl, noI, ?_⟩
          rw [ropen_vf, w, e1, e2, z1, hlt, hk, hq, bc_f]
          refine bc_mk (fun h3 => ?_) (fun _ => bc_mk (fun h3 => ?_) (fun _ => ?_))
          · exfalso; simp at h3; omega
          · exfalso; simp at h3; omega
          · clear e1 e2 z1 hlt
            (repeat (first | (with_reducible refine ob_true ?_) | refine ob_mk (by first | (with_reducible exact beq_self_eq_true _) | (with_reducible exact nbeq _) | (with_reducible exact nble _) | (with_reducible exact seq_rfl _) | (with_reducible assumption) | (simp only [decide_eq_true_eq, Bool.and_eq_true, beq_iff_eq, Bool.true_and, Bool.and_true, Nat.beq_eq, Nat.ble_eq, true_and, and_true, ge_iff_le, gt_iff_lt, Bool.not_false]; first | done | omega)) ?_))
            exact (by repeat' (first | exact trivial | exact rfl | apply And.intro | (intro h; exact h)))
  · exact h.elim
def lock2R : Spec := .q fun args blks K => match args, blks with
  | [.agg [.v (.string _), .v (.string _), .v (.string _)], .v (.string _)], [] => K (.v (.bool true))
  | _, _ => False
theorem seals_ok : SpecOK Try.prog 11 lock2R := by
  have hS : SpecsOK Try.prog [(28, awake11S), (27, few11S), (29, sealS), (30, sealS)] := SpecsOK.cons awake11_ok (SpecsOK.cons few11_ok (SpecsOK.cons seal_ok (SpecsOK.cons rseal_ok SpecsOK.nil)))
  refine q_of mixed hS Try.func11 rfl rfl fun args blks K h => ?_
  split at h
  · rename_i key nonce more s
    refine ⟨_, rfl, h, rfl, noI, ?_⟩
    rw [seals_vf]
    refine bc_mk (fun _ => (by repeat' (first | exact trivial | exact rfl | apply And.intro | (intro h; exact h)))) (fun hf => ?_)
    have hf2 : more.size ≤ 1000 ∧ s.size ≤ 2000 := by simpa using hf
    have hA : decide (s.size ≤ 10000) = true := decide_eq_true (by omega)
    have hB : decide (more.size ≤ 10000) = true := decide_eq_true (by omega)
    rw [hA, hB]
    cases badKey key nonce <;> simp only [bc_t, bc_f, ob_t, Bool.and_self, seq_rfl] <;> exact (by repeat' (first | exact trivial | exact rfl | apply And.intro | (intro h; exact h)))
  · exact h.elim
theorem opens_ok : SpecOK Try.prog 12 lock2R := by
  have hS : SpecsOK Try.prog [(28, awake11S), (27, few11S), (31, openS), (32, openS)] := SpecsOK.cons awake11_ok (SpecsOK.cons few11_ok (SpecsOK.cons open_ok (SpecsOK.cons ropen_ok SpecsOK.nil)))
  refine q_of mixed hS Try.func12 rfl rfl fun args blks K h => ?_
  split at h
  · rename_i key nonce more s
    refine ⟨_, rfl, h, rfl, noI, ?_⟩
    rw [opens_vf]
    refine bc_mk (fun _ => (by repeat' (first | exact trivial | exact rfl | apply And.intro | (intro h; exact h)))) (fun hf => ?_)
    have hf2 : more.size ≤ 1000 ∧ s.size ≤ 2000 := by simpa using hf
    have hA : decide (s.size ≤ 10000) = true := decide_eq_true (by omega)
    have hB : decide (more.size ≤ 10000) = true := decide_eq_true (by omega)
    rw [hA, hB]
    clear hA hB hf
    generalize xorF key nonce 1 (bodyB s) = x at *
    generalize seq (sumF key nonce (bodyB s) more) (tailB s) = q at *
    generalize decide (s.size < 16) = c at *
    cases c <;> cases q <;> cases badKey key nonce <;> simp only [bc_t, bc_f, ob_t, Bool.and_self, seq_rfl] <;> exact (by repeat' (first | exact trivial | exact rfl | apply And.intro | (intro h; exact h)))
  · exact h.elim

end Go.Proofs.Ytinmllbkdjceaaa.Sx
