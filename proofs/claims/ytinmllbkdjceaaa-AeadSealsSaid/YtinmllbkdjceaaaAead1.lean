/- The sealed texts: the program's functions. No condition. -/
import Derived.Test.YtinmllbkdjceaaaSx11
import Derived.Test.YtinmllbkdjceaaaProg
import Derived.Test.YtinmllbkdjceaaaBits
import Derived.Test.YtinmllbkdjceaaaWords
import Derived.Test.YtinmllbkdjceaaaChacha1
import Derived.Test.YtinmllbkdjceaaaChacha2
import Derived.Test.YtinmllbkdjceaaaChacha3
import Derived.Test.YtinmllbkdjceaaaChacha4
import Derived.Test.YtinmllbkdjceaaaChacha5
import Derived.Test.YtinmllbkdjceaaaChacha6
import Derived.Test.YtinmllbkdjceaaaPoly1
import Derived.Test.YtinmllbkdjceaaaPoly2
import Derived.Test.YtinmllbkdjceaaaPoly3
import Derived.Test.YtinmllbkdjceaaaPoly4
import Derived.Test.YtinmllbkdjceaaaPoly5
import Derived.Test.YtinmllbkdjceaaaPoly6
namespace Go.Proofs.Ytinmllbkdjceaaa.Sx
open Go Go.Proofs
set_option maxRecDepth 100000
set_option linter.unusedSimpArgs false
set_option linter.unusedVariables false

def fillF (n : Nat) : ByteArray := bstr (List.replicate ((16 - n % 16) % 16) 0)
def lenF (n : Nat) : ByteArray := bstr ((List.range 8).map fun i => ((n / 256 ^ i % 256 : Nat) : Int))
def fillZ : Spec := .q fun args blks K => match args, blks with
  | [.v (.int .i64 n)], [] => ob (decide (0 ≤ n) && decide (n ≤ 100000)) (K (.v (.string (fillF n.toNat))))
  | _, _ => False
theorem fill_vf (n : Int) (K : SV → List Blk → List Nat → Prop) : vf Try.prog [] (noI) Try.f63 [.v (.int .i64 n)] [] K =
  (ob (decide ((0 : Int) ≤ iand IntKind.i64 (IntKind.i64.wrap ((0 : Int) - n)) (15 : Int)) && decide (iand IntKind.i64 (IntKind.i64.wrap ((0 : Int) - n)) (15 : Int) ≤ iand IntKind.i64 (IntKind.i64.wrap ((0 : Int) - n)) (15 : Int)) && decide ((1 : Int) * iand IntKind.i64 (IntKind.i64.wrap ((0 : Int) - n)) (15 : Int) ≤ (281474976710656 : Int)) && decide (iand IntKind.i64 (IntKind.i64.wrap ((0 : Int) - n)) (15 : Int) ≤ (9223372036854775807 : Int))) (ob (decide ((0 : Nat) + (iand IntKind.i64 (IntKind.i64.wrap ((0 : Int) - n)) (15 : Int)).toNat ≤ (List.replicate (iand IntKind.i64 (IntKind.i64.wrap ((0 : Int) - n)) (15 : Int)).toNat (0 : Int)).length)) (K (SV.v (Value.string (bstr (List.take (iand IntKind.i64 (IntKind.i64.wrap ((0 : Int) - n)) (15 : Int)).toNat (List.drop (0 : Nat) (List.replicate (iand IntKind.i64 (IntKind.i64.wrap ((0 : Int) - n)) (15 : Int)).toNat (0 : Int))))))) [Blk.ints true IntKind.u8 (List.replicate (iand IntKind.i64 (IntKind.i64.wrap ((0 : Int) - n)) (15 : Int)).toNat (0 : Int))] []))) := by kernel_rfl
def lengthZ : Spec := .q fun args blks K => match args, blks with
  | [.v (.int .i64 n)], [] => ob (decide (0 ≤ n) && decide (n ≤ 100000)) (K (.v (.string (lenF n.toNat))))
  | _, _ => False
theorem length_vf (n : Int) (K : SV → List Blk → List Nat → Prop) : vf Try.prog [] (fun _ _ => .unroll 10) Try.f64 [.v (.int .i64 n)] [] K =
  (ob true (ob true (ob true (ob true (ob true (ob true (ob true (ob true (ob true (ob true (ob true (ob true (ob true (ob true (ob true (ob true (ob true (ob true (K (SV.v (Value.string (bstr [IntKind.u8.wrap (ishr IntKind.i64 n (0 : Int)), IntKind.u8.wrap (ishr IntKind.i64 n (8 : Int)), IntKind.u8.wrap (ishr IntKind.i64 n (16 : Int)), IntKind.u8.wrap (ishr IntKind.i64 n (24 : Int)), IntKind.u8.wrap (ishr IntKind.i64 n (32 : Int)), IntKind.u8.wrap (ishr IntKind.i64 n (40 : Int)), IntKind.u8.wrap (ishr IntKind.i64 n (48 : Int)), IntKind.u8.wrap (ishr IntKind.i64 n (56 : Int))]))) [Blk.ints true IntKind.u8 [IntKind.u8.wrap (ishr IntKind.i64 n (0 : Int)), IntKind.u8.wrap (ishr IntKind.i64 n (8 : Int)), IntKind.u8.wrap (ishr IntKind.i64 n (16 : Int)), IntKind.u8.wrap (ishr IntKind.i64 n (24 : Int)), IntKind.u8.wrap (ishr IntKind.i64 n (32 : Int)), IntKind.u8.wrap (ishr IntKind.i64 n (40 : Int)), IntKind.u8.wrap (ishr IntKind.i64 n (48 : Int)), IntKind.u8.wrap (ishr IntKind.i64 n (56 : Int))]] []))))))))))))))))))) := by kernel_rfl
def streamZ : Spec := .q fun args blks K => match args, blks with
  | [.agg [.v (.string key), .v (.string nonce)], .v (.string s)], [] => ob (decide (s.size ≤ 100000)) (bc (badKey key nonce)
      (K (.tup [.v (.string ⟨#[]⟩), .v (.int .i64 2)]))
      (K (.tup [.v (.string (xorF key nonce 1 s)), .v (.int .i64 0)])))
  | _, _ => False
theorem stream_vf (key nonce s : ByteArray) (K : SV → List Blk → List Nat → Prop) : vf Try.prog [(19, xorS)] (noI) Try.f48 [.agg [.v (.string key), .v (.string nonce)], .v (.string s)] [] K =
  (ob (true && decide (s.size ≤ (100000 : Nat))) (bc (badKey key nonce) (K (SV.tup [SV.v (Value.string { data := { toList := [] } }), SV.v (Value.int IntKind.i64 (2 : Int))]) [Blk.cells true [SV.v (Value.string key), SV.v (Value.string nonce)]] []) (K (SV.tup [SV.v (Value.string (xorF key nonce (1 : Int) s)), SV.v (Value.int IntKind.i64 (0 : Int))]) [Blk.cells true [SV.v (Value.string key), SV.v (Value.string nonce)]] []))) := by kernel_rfl
def macText (s more : ByteArray) : ByteArray := more ++ fillF more.size ++ s ++ fillF s.size ++ lenF more.size ++ lenF s.size
def sumF (key nonce s more : ByteArray) : ByteArray := macF ((blockF key nonce 0).extract 0 32) (macText s more)
def sumLS : Spec := .q fun args blks K => match args, blks with
  | [.agg [.v (.string key), .v (.string nonce)], .v (.string s), .v (.string more)], [] => ob (!badKey key nonce && decide (s.size ≤ 10000) && decide (more.size ≤ 10000)) (K (.v (.string (sumF key nonce s more))))
  | _, _ => False
theorem sum_vf (key nonce s more : ByteArray) (K : SV → List Blk → List Nat → Prop) : vf Try.prog [(16, blockG), (22, macS), (63, fillZ), (64, lengthZ)] (noI) Try.f49 [.agg [.v (.string key), .v (.string nonce)], .v (.string s), .v (.string more)] [] K =
  (ob (!badKey key nonce) (ob (true && decide ((32 : Int) ≤ (↑(blockF key nonce (0 : Int)).size : Int))) (ob (true && decide ((↑more.size : Int) ≤ (100000 : Int))) (ob (decide (more.size + (fillF (↑more.size : Int).toNat).size ≤ (9223372036854775807 : Nat))) (ob (decide ((more ++ fillF (↑more.size : Int).toNat).size + s.size ≤ (9223372036854775807 : Nat))) (ob (true && decide ((↑s.size : Int) ≤ (100000 : Int))) (ob (decide ((more ++ fillF (↑more.size : Int).toNat ++ s).size + (fillF (↑s.size : Int).toNat).size ≤ (9223372036854775807 : Nat))) (ob (true && decide ((↑more.size : Int) ≤ (100000 : Int))) (ob (decide ((more ++ fillF (↑more.size : Int).toNat ++ s ++ fillF (↑s.size : Int).toNat).size + (lenF (↑more.size : Int).toNat).size ≤ (9223372036854775807 : Nat))) (ob (true && decide ((↑s.size : Int) ≤ (100000 : Int))) (ob (decide ((more ++ fillF (↑more.size : Int).toNat ++ s ++ fillF (↑s.size : Int).toNat ++ lenF (↑more.size : Int).toNat).size + (lenF (↑s.size : Int).toNat).size ≤ (9223372036854775807 : Nat))) (ob (decide ((more ++ fillF (↑more.size : Int).toNat ++ s ++ fillF (↑s.size : Int).toNat ++ lenF (↑more.size : Int).toNat ++ lenF (↑s.size : Int).toNat).size ≤ (100000 : Nat))) (bc (badK ((blockF key nonce (0 : Int)).extract (0 : Nat) (32 : Nat))) (K (SV.v (Value.string { data := { toList := [] } })) [Blk.cells true [SV.v (Value.string key), SV.v (Value.string nonce)]] []) (K (SV.v (Value.string (macF ((blockF key nonce (0 : Int)).extract (0 : Nat) (32 : Nat)) (more ++ fillF (↑more.size : Int).toNat ++ s ++ fillF (↑s.size : Int).toNat ++ lenF (↑more.size : Int).toNat ++ lenF (↑s.size : Int).toNat)))) [Blk.cells true [SV.v (Value.string key), SV.v (Value.string nonce)]] [])))))))))))))) := by kernel_rfl
theorem seal_vf (key nonce s more : ByteArray) (K : SV → List Blk → List Nat → Prop) : vf Try.prog [(48, streamZ), (49, sumLS)] (noI) Try.f29 [.v (.string key), .v (.string nonce), .v (.string s), .v (.string more)] [] K =
  (ob (decide (s.size ≤ (100000 : Nat))) (bc (badKey key nonce) (K (SV.tup [SV.v (Value.string { data := { toList := [] } }), SV.v (Value.int IntKind.i64 (2 : Int))]) [Blk.cells true [SV.v (Value.string key), SV.v (Value.string nonce)]] []) (ob (!badKey key nonce && decide ((xorF key nonce (1 : Int) s).size ≤ (10000 : Nat)) && decide (more.size ≤ (10000 : Nat))) (ob (decide ((xorF key nonce (1 : Int) s).size + (sumF key nonce (xorF key nonce (1 : Int) s) more).size ≤ (9223372036854775807 : Nat))) (K (SV.tup [SV.v (Value.string (xorF key nonce (1 : Int) s ++ sumF key nonce (xorF key nonce (1 : Int) s) more)), SV.v (Value.int IntKind.i64 (0 : Int))]) [Blk.cells true [SV.v (Value.string key), SV.v (Value.string nonce)]] []))))) := by kernel_rfl
def orN (a b : ByteArray) : Nat → Int
  | 0 => 0
  | k + 1 => ior .u8 (orN a b k) (ixor .u8 (bt a k) (bt b k))
theorem alike_vf (a b : ByteArray) (K : SV → List Blk → List Nat → Prop) : vf Try.prog [] (fun _ st => .inv 16 fun k => { st with env := (7, inat k) :: (5, .v (.int .u8 (orN a b k))) :: keep st.env [0, 1, 4] }) Try.f51 [.v (.string a), .v (.string b)] [] K =
  (ob true (ob ((0 : Int) == orN a b (0 : Nat)) (ob (seq a a) (ob (seq b b) (ob true (∀ (k : Nat), k ≤ (16 : Nat) → bc (decide ((↑k : Int) < (16 : Int))) (ob (true && decide ((↑k : Int) < (↑a.size : Int))) (ob (true && decide ((↑k : Int) < (↑b.size : Int))) (k < (16 : Nat) ∧ ob (IntKind.i64.wrap ((↑k : Int) + (1 : Int)) == (↑(k + (1 : Nat)) : Int)) (ob (ior IntKind.u8 (orN a b k) (ixor IntKind.u8 (bt a (↑k : Int)) (bt b (↑k : Int))) == orN a b (k + (1 : Nat))) (ob (seq a a) (ob (seq b b) (ob true True))))))) (K (SV.v (Value.bool (orN a b k == (0 : Int)))) [] []))))))) := by kernel_rfl
def alikeS : Spec := .q fun args blks K => match args, blks with
  | [.v (.string a), .v (.string b)], [] => ob (decide (a.size = 16) && decide (b.size = 16)) (K (.v (.bool (seq a b))))
  | _, _ => False
def sealF (key nonce s more : ByteArray) : ByteArray := xorF key nonce 1 s ++ sumF key nonce (xorF key nonce 1 s) more
def sealS : Spec := .q fun args blks K => match args, blks with
  | [.v (.string key), .v (.string nonce), .v (.string s), .v (.string more)], [] => ob (decide (s.size ≤ 10000) && decide (more.size ≤ 10000)) (bc (badKey key nonce)
      (K (.tup [.v (.string ⟨#[]⟩), .v (.int .i64 2)]))
      (K (.tup [.v (.string (sealF key nonce s more)), .v (.int .i64 0)])))
  | _, _ => False
theorem iand_i64_15 (x : Int) : iand .i64 x 15 = x % 16 := by
  unfold iand
  have e : ((BitVec.ofInt 64 x &&& BitVec.ofInt 64 15).toNat : Int) = x % 16 := by
    rw [BitVec.toNat_and, BitVec.toNat_ofInt, show (BitVec.ofInt 64 15).toNat = 2 ^ 4 - 1 from rfl, Nat.and_two_pow_sub_one_eq_mod]
    omega
  show IntKind.i64.wrap ((BitVec.ofInt 64 x &&& BitVec.ofInt 64 15).toNat : Int) = _
  rw [e, wrap_i64 _ (by omega) (by omega)]
theorem fillF_size (n : Nat) : (fillF n).size = (16 - n % 16) % 16 := by rw [fillF, bstr_size, List.length_replicate]
theorem lenF_size (n : Nat) : (lenF n).size = 8 := by rw [lenF, bstr_size, List.length_map, List.length_range]
theorem fill_ok : SpecOK Try.prog 63 fillZ := by
  refine q_of mixed SpecsOK.nil Try.func63 rfl rfl fun args blks K h => ?_
  split at h
  · rename_i n
    rw [ob_iff] at h
    obtain ⟨hb, hg⟩ := h
    simp only [Bool.and_eq_true, decide_eq_true_eq] at hb
    refine ⟨_, rfl, hg, rfl, noI, ?_⟩
    rw [fill_vf]
    obtain ⟨m, rfl⟩ := Int.eq_ofNat_of_zero_le hb.1
    have e : iand IntKind.i64 (IntKind.i64.wrap (0 - (m : Int))) 15 = (((16 - m % 16) % 16 : Nat) : Int) := by
      rw [iand_i64_15, wrap_i64 _ (by omega) (by omega)]; omega
    have hF : fillF m = bstr (List.replicate ((16 - m % 16) % 16) 0) := by rw [fillF]
    rw [e, Int.toNat_natCast, Int.toNat_natCast]
    have hlt : (16 - m % 16) % 16 < 16 := by omega
    generalize (16 - m % 16) % 16 = j at *
    have hlen : (List.replicate j (0 : Int)).length = j := List.length_replicate
    clear e hb
    (repeat (first | (with_reducible refine ob_true ?_) | refine ob_mk (by first | (with_reducible exact beq_self_eq_true _) | (with_reducible exact nbeq _) | (with_reducible exact nble _) | (with_reducible exact seq_rfl _) | (with_reducible assumption) | (simp only [decide_eq_true_eq, Bool.and_eq_true, beq_iff_eq, Bool.true_and, Bool.and_true, Nat.beq_eq, Nat.ble_eq, true_and, and_true, ge_iff_le, gt_iff_lt, hlen]; first | done | omega)) ?_))
    refine ⟨?_, (by repeat' (first | exact trivial | exact rfl | apply And.intro | (intro h; exact h)))⟩
    rw [hF, List.drop_zero, List.take_of_length_le (by rw [hlen]; omega)]
  · exact h.elim
theorem byte_i64 (m i : Nat) (hi : i < 8) : IntKind.u8.wrap (ishr .i64 (m : Int) ((8 * i : Nat) : Int)) = ((m / 256 ^ i % 256 : Nat) : Int) := by
  rw [wrap_u8, ishr_div .i64 _ (8 * i) (by simp [IntKind.bits]; omega), ← pow_256]
  push_cast
  rfl
theorem len_list (m : Nat) : (List.range 8).map (fun i => ((m / 256 ^ i % 256 : Nat) : Int)) = [IntKind.u8.wrap (ishr IntKind.i64 (m : Int) (0 : Int)), IntKind.u8.wrap (ishr IntKind.i64 (m : Int) (8 : Int)), IntKind.u8.wrap (ishr IntKind.i64 (m : Int) (16 : Int)), IntKind.u8.wrap (ishr IntKind.i64 (m : Int) (24 : Int)), IntKind.u8.wrap (ishr IntKind.i64 (m : Int) (32 : Int)), IntKind.u8.wrap (ishr IntKind.i64 (m : Int) (40 : Int)), IntKind.u8.wrap (ishr IntKind.i64 (m : Int) (48 : Int)), IntKind.u8.wrap (ishr IntKind.i64 (m : Int) (56 : Int))] := by
  have h := fun i hi => byte_i64 m i hi
  have h0 := h 0 (by decide); have h1 := h 1 (by decide); have h2 := h 2 (by decide); have h3 := h 3 (by decide)
  have h4 := h 4 (by decide); have h5 := h 5 (by decide); have h6 := h 6 (by decide); have h7 := h 7 (by decide)
  show [_, _, _, _, _, _, _, _] = _
  dsimp only
  rw [← h0, ← h1, ← h2, ← h3, ← h4, ← h5, ← h6, ← h7]
  rfl
theorem length_ok : SpecOK Try.prog 64 lengthZ := by
  refine q_of mixed SpecsOK.nil Try.func64 rfl rfl fun args blks K h => ?_
  split at h
  · rename_i n
    rw [ob_iff] at h
    obtain ⟨hb, hg⟩ := h
    simp only [Bool.and_eq_true, decide_eq_true_eq] at hb
    refine ⟨_, rfl, hg, rfl, (fun _ _ => .unroll 10), ?_⟩
    rw [length_vf]
    obtain ⟨m, rfl⟩ := Int.eq_ofNat_of_zero_le hb.1
    rw [Int.toNat_natCast, lenF, len_list]
    simp only [ob_t]
    exact (by repeat' (first | exact trivial | exact rfl | apply And.intro | (intro h; exact h)))
  · exact h.elim
theorem stream_ok : SpecOK Try.prog 48 streamZ := by
  have hS : SpecsOK Try.prog [(19, xorS)] := SpecsOK.cons xor_ok SpecsOK.nil
  refine q_of mixed hS Try.func48 rfl rfl fun args blks K h => ?_
  split at h
  · rename_i key nonce s
    rw [ob_iff, bc_iff] at h
    obtain ⟨hs, hb, hg⟩ := h
    have hs' : (true && decide (s.size ≤ 100000)) = true := by rw [hs]; rfl
    by_cases hk : badKey key nonce = true
    · refine ⟨_, rfl, hb hk, rfl, noI, ?_⟩
      rw [stream_vf, hs', hk]; exact (by repeat' (first | exact trivial | exact rfl | apply And.intro | (intro h; exact h)))
    · rw [Bool.not_eq_true] at hk
      refine ⟨_, rfl, hg hk, rfl, noI, ?_⟩
      rw [stream_vf, hs', hk]; exact (by repeat' (first | exact trivial | exact rfl | apply And.intro | (intro h; exact h)))
  · exact h.elim
theorem blockG_ok : SpecOK Try.prog 16 blockG := by
  refine weaken block_ok fun args blks K h => ?_
  split at h
  · rename_i key nonce n
    rw [ob_iff] at h
    exact bc_mk (fun h1 => absurd h.1 (by rw [h1]; decide)) (fun _ => h.2)
  · exact h.elim
theorem blkF_size (key nonce : ByteArray) (n : Int) : (blockF key nonce n).size = 64 := by
  rw [blockF, bstr_size, bytesF_len]
theorem sum_ok : SpecOK Try.prog 49 sumLS := by
  have hS : SpecsOK Try.prog [(16, blockG), (22, macS), (63, fillZ), (64, lengthZ)] := SpecsOK.cons blockG_ok (SpecsOK.cons pMac_ok (SpecsOK.cons fill_ok (SpecsOK.cons length_ok SpecsOK.nil)))
  refine q_of mixed hS Try.func49 rfl rfl fun args blks K h => ?_
  split at h
  · rename_i key nonce s more
    rw [ob_iff] at h
    obtain ⟨hb, hg⟩ := h
    simp only [Bool.and_eq_true, decide_eq_true_eq] at hb
    obtain ⟨⟨hk, hs⟩, hm⟩ := hb
    refine ⟨_, rfl, hg, rfl, noI, ?_⟩
    rw [sum_vf]
    have z0 := blkF_size key nonce 0
    have z1 : ((blockF key nonce 0).extract 0 32).size = 32 := by rw [ByteArray.size_extract]; omega
    have z2 : badK ((blockF key nonce 0).extract 0 32) = false := by unfold badK; rw [z1]; rfl
    have f1 := fillF_size more.size
    have f2 := fillF_size s.size
    have l1 := lenF_size more.size
    have l2 := lenF_size s.size
    have hF : sumF key nonce s more = macF ((blockF key nonce 0).extract 0 32) (more ++ fillF more.size ++ s ++ fillF s.size ++ lenF more.size ++ lenF s.size) := by rw [sumF, macText]
    rw [Int.toNat_natCast, Int.toNat_natCast, ← hF, z0, z2, hk]
    clear hF z2 z1
    simp only [ByteArray.size_append, l1, l2, f1, f2]
    have g1 : (16 - more.size % 16) % 16 < 16 := by omega
    have g2 : (16 - s.size % 16) % 16 < 16 := by omega
    clear f1 f2 l1 l2
    generalize (16 - more.size % 16) % 16 = p at *
    generalize (16 - s.size % 16) % 16 = q at *
    (repeat (first | (with_reducible refine ob_true ?_) | refine ob_mk (by first | (with_reducible exact beq_self_eq_true _) | (with_reducible exact nbeq _) | (with_reducible exact nble _) | (with_reducible exact seq_rfl _) | (with_reducible assumption) | (simp only [decide_eq_true_eq, Bool.and_eq_true, beq_iff_eq, Bool.true_and, Bool.and_true, Nat.beq_eq, Nat.ble_eq, true_and, and_true, ge_iff_le, gt_iff_lt]; first | done | omega)) ?_))
    exact (by repeat' (first | exact trivial | exact rfl | apply And.intro | (intro h; exact h)))
  · exact h.elim
theorem xorSz (key nonce : ByteArray) (n : Int) (s : ByteArray) : (xorF key nonce n s).size = s.size := by
  rw [xorF, bstr_size, xoutF_len, bytesL_len]
theorem macSz (key t : ByteArray) : (macF key t).size = 16 := by
  rw [macF, tagF, bstr_size, outP_len]
theorem sumSz (key nonce s more : ByteArray) : (sumF key nonce s more).size = 16 := by rw [sumF, macSz]
theorem seal_ok : SpecOK Try.prog 29 sealS := by
  have hS : SpecsOK Try.prog [(48, streamZ), (49, sumLS)] := SpecsOK.cons stream_ok (SpecsOK.cons sum_ok SpecsOK.nil)
  refine q_of mixed hS Try.func29 rfl rfl fun args blks K h => ?_
  split at h
  · rename_i key nonce s more
    rw [ob_iff, bc_iff] at h
    obtain ⟨hs, hb, hg⟩ := h
    simp only [Bool.and_eq_true, decide_eq_true_eq] at hs
    have z1 := xorSz key nonce 1 s
    have z2 := sumSz key nonce (xorF key nonce 1 s) more
    have hF : sealF key nonce s more = xorF key nonce 1 s ++ sumF key nonce (xorF key nonce 1 s) more := by rw [sealF]
    by_cases hk : badKey key nonce = true
    · refine ⟨_, rfl, hb hk, rfl, noI, ?_⟩
      rw [seal_vf, hk]
      (repeat (first | (with_reducible refine ob_true ?_) | refine ob_mk (by first | (with_reducible exact beq_self_eq_true _) | (with_reducible exact nbeq _) | (with_reducible exact nble _) | (with_reducible exact seq_rfl _) | (with_reducible assumption) | (simp only [decide_eq_true_eq, Bool.and_eq_true, beq_iff_eq, Bool.true_and, Bool.and_true, Nat.beq_eq, Nat.ble_eq, true_and, and_true, ge_iff_le, gt_iff_lt]; first | done | omega)) ?_))
      exact (by repeat' (first | exact trivial | exact rfl | apply And.intro | (intro h; exact h)))
    · rw [Bool.not_eq_true] at hk
      refine ⟨_, rfl, hg hk, rfl, noI, ?_⟩
      rw [seal_vf, hk, z2, z1, ← hF]
      clear hF
      (repeat (first | (with_reducible refine ob_true ?_) | refine ob_mk (by first | (with_reducible exact beq_self_eq_true _) | (with_reducible exact nbeq _) | (with_reducible exact nble _) | (with_reducible exact seq_rfl _) | (with_reducible assumption) | (simp only [decide_eq_true_eq, Bool.and_eq_true, beq_iff_eq, Bool.true_and, Bool.and_true, Nat.beq_eq, Nat.ble_eq, true_and, and_true, ge_iff_le, gt_iff_lt]; first | done | omega)) ?_))
      try rw [bc_f]
      (repeat (first | (with_reducible refine ob_true ?_) | refine ob_mk (by first | (with_reducible exact beq_self_eq_true _) | (with_reducible exact nbeq _) | (with_reducible exact nble _) | (with_reducible exact seq_rfl _) | (with_reducible assumption) | (simp only [decide_eq_true_eq, Bool.and_eq_true, beq_iff_eq, Bool.true_and, Bool.and_true, Nat.beq_eq, Nat.ble_eq, true_and, and_true, ge_iff_le, gt_iff_lt, Bool.not_false]; first | done | omega)) ?_))
      exact (by repeat' (first | exact trivial | exact rfl | apply And.intro | (intro h; exact h)))
  · exact h.elim
theorem bt_b (a : ByteArray) (k : Int) : 0 ≤ bt a k ∧ bt a k < 256 := by
  unfold bt
  have := (a.data.toList.getD k.toNat 0).toNat_lt
  omega
theorem orx (p x y : Int) (hp : 0 ≤ p ∧ p < 256) (hx : 0 ≤ x ∧ x < 256) (hy : 0 ≤ y ∧ y < 256) : (ior .u8 p (ixor .u8 x y) = 0 ↔ p = 0 ∧ x = y) ∧ 0 ≤ ior .u8 p (ixor .u8 x y) ∧ ior .u8 p (ixor .u8 x y) < 256 := by
  obtain ⟨a, rfl⟩ := Int.eq_ofNat_of_zero_le hp.1
  obtain ⟨b, rfl⟩ := Int.eq_ofNat_of_zero_le hx.1
  obtain ⟨c, rfl⟩ := Int.eq_ofNat_of_zero_le hy.1
  have ha : a < 2 ^ 8 := by omega
  have hb : b < 2 ^ 8 := by omega
  have hc : c < 2 ^ 8 := by omega
  have e1 : ixor .u8 (b : Int) (c : Int) = ((b ^^^ c : Nat) : Int) := by
    unfold ixor
    show IntKind.u8.wrap (((BitVec.ofInt 8 (b : Int) ^^^ BitVec.ofInt 8 (c : Int)).toNat : Nat) : Int) = _
    rw [BitVec.toNat_xor, BitVec.ofInt_natCast, BitVec.ofInt_natCast, BitVec.toNat_ofNat, BitVec.toNat_ofNat, Nat.mod_eq_of_lt hb, Nat.mod_eq_of_lt hc, wrap_u8]
    have := Nat.xor_lt_two_pow hb hc
    omega
  have hxl := Nat.xor_lt_two_pow hb hc
  have e2 : ior .u8 (a : Int) ((b ^^^ c : Nat) : Int) = ((a ||| (b ^^^ c) : Nat) : Int) := by
    unfold ior
    show IntKind.u8.wrap (((BitVec.ofInt 8 (a : Int) ||| BitVec.ofInt 8 ((b ^^^ c : Nat) : Int)).toNat : Nat) : Int) = _
    rw [BitVec.toNat_or, BitVec.ofInt_natCast, BitVec.ofInt_natCast, BitVec.toNat_ofNat, BitVec.toNat_ofNat, Nat.mod_eq_of_lt ha, Nat.mod_eq_of_lt hxl, wrap_u8]
    have := Nat.or_lt_two_pow ha hxl
    omega
  have hol := Nat.or_lt_two_pow ha hxl
  rw [e1, e2]
  refine ⟨?_, by omega, by omega⟩
  constructor
  · intro h
    have h1 : a ||| (b ^^^ c) = 0 := by omega
    obtain ⟨h2, h3⟩ := Nat.or_eq_zero_iff.1 h1
    have h4 : b = c := by
      have := congrArg (· ^^^ c) h3
      simpa [Nat.xor_assoc] using this
    omega
  · rintro ⟨h1, h2⟩
    have h1 : a = 0 := by omega
    have h2 : b = c := by omega
    subst h1 h2
    simp
theorem orN_b (a b : ByteArray) : ∀ k, 0 ≤ orN a b k ∧ orN a b k < 256
  | 0 => by rw [orN]; decide
  | k + 1 => by rw [orN]; exact (orx _ _ _ (orN_b a b k) (bt_b a k) (bt_b b k)).2
theorem orN_iff (a b : ByteArray) : ∀ k, orN a b k = 0 ↔ ∀ i : Nat, i < k → bt a i = bt b i
  | 0 => by rw [orN]; simp
  | k + 1 => by
    rw [orN, (orx _ _ _ (orN_b a b k) (bt_b a k) (bt_b b k)).1, orN_iff a b k]
    constructor
    · rintro ⟨h1, h2⟩ i hi
      by_cases e : i = k
      · rw [e]; exact h2
      · exact h1 i (by omega)
    · exact fun h => ⟨fun i hi => h i (by omega), h k (by omega)⟩
theorem alike_ok : SpecOK Try.prog 51 alikeS := by
  refine q_of mixed SpecsOK.nil Try.func51 rfl rfl fun args blks K h => ?_
  split at h
  · rename_i a b
    rw [ob_iff] at h
    obtain ⟨hb, hg⟩ := h
    simp only [Bool.and_eq_true, decide_eq_true_eq] at hb
    refine ⟨_, rfl, hg, rfl, (fun _ st => .inv 16 fun k => { st with env := (7, inat k) :: (5, .v (.int .u8 (orN a b k))) :: keep st.env [0, 1, 4] }), ?_⟩
    rw [alike_vf]
    have h0 : orN a b 0 = 0 := by rw [orN]
    (repeat (first | (with_reducible refine ob_true ?_) | refine ob_mk (by first | (with_reducible exact beq_self_eq_true _) | (with_reducible exact nbeq _) | (with_reducible exact nble _) | (with_reducible exact seq_rfl _) | (with_reducible assumption) | (simp only [decide_eq_true_eq, Bool.and_eq_true, beq_iff_eq, Bool.true_and, Bool.and_true, Nat.beq_eq, Nat.ble_eq, true_and, and_true, ge_iff_le, gt_iff_lt, h0]; first | done | omega)) ?_))
    intro k hk
    have hs : orN a b (k + 1) = ior .u8 (orN a b k) (ixor .u8 (bt a k) (bt b k)) := by rw [orN]
    refine bc_mk (fun hlt => ?_) (fun hge => ?_)
    · have hlt := of_decide_eq_true hlt
      have w2 : IntKind.i64.wrap ((k : Int) + 1) = ((k + 1 : Nat) : Int) := by rw [wrap_i64 _ (by omega) (by omega)]; omega
      have hk3 : k < 16 := by omega
      rw [w2, hs]
      clear hs w2
      (repeat (first | (with_reducible refine ob_true ?_) | refine ob_mk (by first | (with_reducible exact beq_self_eq_true _) | (with_reducible exact nbeq _) | (with_reducible exact nble _) | (with_reducible exact seq_rfl _) | (with_reducible assumption) | (simp only [decide_eq_true_eq, Bool.and_eq_true, beq_iff_eq, Bool.true_and, Bool.and_true, Nat.beq_eq, Nat.ble_eq, true_and, and_true, ge_iff_le, gt_iff_lt]; first | done | omega)) ?_))
      refine ⟨hk3, ?_⟩
      (repeat (first | (with_reducible refine ob_true ?_) | refine ob_mk (by first | (with_reducible exact beq_self_eq_true _) | (with_reducible exact nbeq _) | (with_reducible exact nble _) | (with_reducible exact seq_rfl _) | (with_reducible assumption) | (simp only [decide_eq_true_eq, Bool.and_eq_true, beq_iff_eq, Bool.true_and, Bool.and_true, Nat.beq_eq, Nat.ble_eq, true_and, and_true, ge_iff_le, gt_iff_lt]; first | done | omega)) ?_))
      trivial
    · have hge := of_decide_eq_false hge
      have k16 : k = 16 := by omega
      have e : (orN a b k == 0) = seq a b := by
        rw [Bool.eq_iff_iff, beq_iff_eq, seq_iff, orN_iff, k16]
        constructor
        · intro h
          apply bytesL_inj
          apply List.ext_getElem (by rw [bytesL_len, bytesL_len]; omega)
          intro i h1 h2
          rw [bytesL_len] at h1 h2
          have := h i (by omega)
          rw [bt_bytesL, bt_bytesL, List.getD_eq_getElem?_getD, List.getD_eq_getElem?_getD, List.getElem?_eq_getElem (by rw [bytesL_len]; omega), List.getElem?_eq_getElem (by rw [bytesL_len]; omega)] at this
          exact this
        · rintro rfl i _; rfl
      rw [e]
      exact (by repeat' (first | exact trivial | exact rfl | apply And.intro | (intro h; exact h)))
  · exact h.elim

end Go.Proofs.Ytinmllbkdjceaaa.Sx
