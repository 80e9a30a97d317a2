/- Poly1305: a text. No condition. -/
import Derived.Test.YtinmllbkdjceaaaSx11
import Derived.Test.YtinmllbkdjceaaaProg
import Derived.Test.YtinmllbkdjceaaaBits
import Derived.Test.YtinmllbkdjceaaaWords
import Derived.Test.YtinmllbkdjceaaaPoly1
import Derived.Test.YtinmllbkdjceaaaPoly2
import Derived.Test.YtinmllbkdjceaaaPoly3
import Derived.Test.YtinmllbkdjceaaaPoly4
namespace Go.Proofs.Ytinmllbkdjceaaa.Sx
open Go Go.Proofs
set_option maxRecDepth 100000
set_option linter.unusedSimpArgs false
set_option linter.unusedVariables false

/-- The k-th piece of a text, a one behind it, and zeros. -/
def padL (t : ByteArray) (k : Nat) : List Int := ((bytesL t).drop (16 * k)).take 16 ++ 1 :: List.replicate (16 - min 16 (t.size - 16 * k)) 0
def bufW (t : ByteArray) : Nat → List Int
  | 0 => [0, 0, 0, 0, 0, 0, 0, 0, 0, 0, 0, 0, 0, 0, 0, 0, 0]
  | k + 1 => padL t k
def restW (t : ByteArray) (k : Nat) : ByteArray := t.extract (16 * k) t.size
def accP (x r : Int) (t : ByteArray) : Nat → Int
  | 0 => x
  | k + 1 => foldP ((accP x r t k + numK (padL t k) 0 17) * r) 2
def val3 (a b c : Int) : Int := a + 18446744073709551616 * b + 340282366920938463463374607431768211456 * c
def val2 (a b : Int) : Int := a + 18446744073709551616 * b
def writeS : Spec := .m fun args blks K => match args, blks with
  | [.ptr 0 0, .v (.string t)], [.ints true .u64 [a, b, c, r0, r1, s0, s1]] =>
    ob (decide (0 ≤ a) && decide (a < 18446744073709551616) && decide (0 ≤ b) && decide (b < 18446744073709551616) && decide (0 ≤ c) && decide (c < 4) && decide (0 ≤ r0) && decide (r0 < 1152921504606846976) && decide (0 ≤ r1) && decide (r1 < 1152921504606846976) && decide (t.size ≤ 100000))
      (K (.tup []) [.ints true .u64 [accP (val3 a b c) (val2 r0 r1) t ((t.size + 15) / 16) % 18446744073709551616, accP (val3 a b c) (val2 r0 r1) t ((t.size + 15) / 16) / 18446744073709551616 % 18446744073709551616, accP (val3 a b c) (val2 r0 r1) t ((t.size + 15) / 16) / 340282366920938463463374607431768211456, r0, r1, s0, s1]] [])
  | _, _ => False
theorem pWrite_vf (a b c r0 r1 s0 s1 : Int) (t : ByteArray) (K : SV → List Blk → List Nat → Prop) : vf Try.prog [(56, pblockS)] (fun _ st => .inv ((t.size + 15) / 16) fun k => { st with env := (1, .v (.string (restW t k))) :: keep st.env [0, 4], tbl := (st.tbl.set 0 (.ints true .u64 [accP (val3 a b c) (val2 r0 r1) t k % 18446744073709551616, accP (val3 a b c) (val2 r0 r1) t k / 18446744073709551616 % 18446744073709551616, accP (val3 a b c) (val2 r0 r1) t k / 340282366920938463463374607431768211456, r0, r1, s0, s1])).set 1 (.ints true .u8 (bufW t k)) }) Try.f40 [.ptr 0 0, .v (.string t)] [.ints true .u64 [a, b, c, r0, r1, s0, s1]] K =
  (ob (seq t (restW t (0 : Nat))) (ob true (ob true (ob true (ob true (ob true (ob ([a, b, c, r0, r1, s0, s1] == [accP (val3 a b c) (val2 r0 r1) t (0 : Nat) % (18446744073709551616 : Int), accP (val3 a b c) (val2 r0 r1) t (0 : Nat) / (18446744073709551616 : Int) % (18446744073709551616 : Int), accP (val3 a b c) (val2 r0 r1) t (0 : Nat) / (340282366920938463463374607431768211456 : Int), r0, r1, s0, s1]) (ob true (ob ([(0 : Int), (0 : Int), (0 : Int), (0 : Int), (0 : Int), (0 : Int), (0 : Int), (0 : Int), (0 : Int), (0 : Int), (0 : Int), (0 : Int), (0 : Int), (0 : Int), (0 : Int), (0 : Int), (0 : Int)] == bufW t (0 : Nat)) (∀ (k : Nat), k ≤ (t.size + (15 : Nat)) / (16 : Nat) → bc (decide ((↑(restW t k).size : Int) > (0 : Int))) (ob (true && decide ((17 : Nat) ≤ (Blk.ints true IntKind.u8 (bufW t k)).len)) (ob (true && Nat.ble (17 : Nat) (bufW t k).length) (ob true (ob true (ob (((restW t k).size.min (16 : Nat) * (1 : Nat)).ble (bytesL (restW t k)).length && ((0 : Nat) + (restW t k).size.min (16 : Nat) * (1 : Nat)).ble ((0 : Int) :: (0 : Int) :: (0 : Int) :: (0 : Int) :: (0 : Int) :: (0 : Int) :: (0 : Int) :: (0 : Int) :: (0 : Int) :: (0 : Int) :: (0 : Int) :: (0 : Int) :: (0 : Int) :: (0 : Int) :: (0 : Int) :: (0 : Int) :: (0 : Int) :: List.append._f [] PUnit.unit (List.drop (17 : Nat) (bufW t k))).length) (ob (true && decide ((↑((restW t k).size.min (16 : Nat)) : Int) < (17 : Int))) (ob (decide ((0 : Nat) + (↑((restW t k).size.min (16 : Nat)) : Int).toNat * (1 : Nat) < (putAt ((0 : Int) :: (0 : Int) :: (0 : Int) :: (0 : Int) :: (0 : Int) :: (0 : Int) :: (0 : Int) :: (0 : Int) :: (0 : Int) :: (0 : Int) :: (0 : Int) :: (0 : Int) :: (0 : Int) :: (0 : Int) :: (0 : Int) :: (0 : Int) :: (0 : Int) :: List.append._f [] PUnit.unit (List.drop (17 : Nat) (bufW t k))) (0 : Nat) (List.take ((restW t k).size.min (16 : Nat) * (1 : Nat)) (bytesL (restW t k)))).length)) (ob (true && decide ((17 : Nat) ≤ (Blk.ints true IntKind.u8 ((putAt ((0 : Int) :: (0 : Int) :: (0 : Int) :: (0 : Int) :: (0 : Int) :: (0 : Int) :: (0 : Int) :: (0 : Int) :: (0 : Int) :: (0 : Int) :: (0 : Int) :: (0 : Int) :: (0 : Int) :: (0 : Int) :: (0 : Int) :: (0 : Int) :: (0 : Int) :: List.append._f [] PUnit.unit (List.drop (17 : Nat) (bufW t k))) (0 : Nat) (List.take ((restW t k).size.min (16 : Nat) * (1 : Nat)) (bytesL (restW t k)))).set ((0 : Nat) + (↑((restW t k).size.min (16 : Nat)) : Int).toNat * (1 : Nat)) (1 : Int))).len)) (ob (decide ((0 : Int) ≤ accP (val3 a b c) (val2 r0 r1) t k % (18446744073709551616 : Int)) && decide (accP (val3 a b c) (val2 r0 r1) t k % (18446744073709551616 : Int) < (18446744073709551616 : Int)) && decide ((0 : Int) ≤ accP (val3 a b c) (val2 r0 r1) t k / (18446744073709551616 : Int) % (18446744073709551616 : Int)) && decide (accP (val3 a b c) (val2 r0 r1) t k / (18446744073709551616 : Int) % (18446744073709551616 : Int) < (18446744073709551616 : Int)) && decide ((0 : Int) ≤ accP (val3 a b c) (val2 r0 r1) t k / (340282366920938463463374607431768211456 : Int)) && decide (accP (val3 a b c) (val2 r0 r1) t k / (340282366920938463463374607431768211456 : Int) < (4 : Int)) && decide ((0 : Int) ≤ r0) && decide (r0 < (1152921504606846976 : Int)) && decide ((0 : Int) ≤ r1) && decide (r1 < (1152921504606846976 : Int)) && decide (((putAt ((0 : Int) :: (0 : Int) :: (0 : Int) :: (0 : Int) :: (0 : Int) :: (0 : Int) :: (0 : Int) :: (0 : Int) :: (0 : Int) :: (0 : Int) :: (0 : Int) :: (0 : Int) :: (0 : Int) :: (0 : Int) :: (0 : Int) :: (0 : Int) :: (0 : Int) :: List.append._f [] PUnit.unit (List.drop (17 : Nat) (bufW t k))) (0 : Nat) (List.take ((restW t k).size.min (16 : Nat) * (1 : Nat)) (bytesL (restW t k)))).set ((0 : Nat) + (↑((restW t k).size.min (16 : Nat)) : Int).toNat * (1 : Nat)) (1 : Int)).length = (17 : Nat)) && okB ((putAt ((0 : Int) :: (0 : Int) :: (0 : Int) :: (0 : Int) :: (0 : Int) :: (0 : Int) :: (0 : Int) :: (0 : Int) :: (0 : Int) :: (0 : Int) :: (0 : Int) :: (0 : Int) :: (0 : Int) :: (0 : Int) :: (0 : Int) :: (0 : Int) :: (0 : Int) :: List.append._f [] PUnit.unit (List.drop (17 : Nat) (bufW t k))) (0 : Nat) (List.take ((restW t k).size.min (16 : Nat) * (1 : Nat)) (bytesL (restW t k)))).set ((0 : Nat) + (↑((restW t k).size.min (16 : Nat)) : Int).toNat * (1 : Nat)) (1 : Int)) && decide (((putAt ((0 : Int) :: (0 : Int) :: (0 : Int) :: (0 : Int) :: (0 : Int) :: (0 : Int) :: (0 : Int) :: (0 : Int) :: (0 : Int) :: (0 : Int) :: (0 : Int) :: (0 : Int) :: (0 : Int) :: (0 : Int) :: (0 : Int) :: (0 : Int) :: (0 : Int) :: List.append._f [] PUnit.unit (List.drop (17 : Nat) (bufW t k))) (0 : Nat) (List.take ((restW t k).size.min (16 : Nat) * (1 : Nat)) (bytesL (restW t k)))).set ((0 : Nat) + (↑((restW t k).size.min (16 : Nat)) : Int).toNat * (1 : Nat)) (1 : Int)).getD (16 : Nat) (0 : Int) ≤ (1 : Int))) (ob (true && decide ((↑((restW t k).size.min (16 : Nat)) : Int) ≤ (↑(restW t k).size : Int))) (k < (t.size + (15 : Nat)) / (16 : Nat) ∧ ob (seq ((restW t k).extract (↑((restW t k).size.min (16 : Nat)) : Int).toNat (restW t k).size) (restW t (k + (1 : Nat)))) (ob true (ob true (ob true (ob true (ob true (ob ([addB (accP (val3 a b c) (val2 r0 r1) t k % (18446744073709551616 : Int)) (accP (val3 a b c) (val2 r0 r1) t k / (18446744073709551616 : Int) % (18446744073709551616 : Int)) (accP (val3 a b c) (val2 r0 r1) t k / (340282366920938463463374607431768211456 : Int)) ((putAt ((0 : Int) :: (0 : Int) :: (0 : Int) :: (0 : Int) :: (0 : Int) :: (0 : Int) :: (0 : Int) :: (0 : Int) :: (0 : Int) :: (0 : Int) :: (0 : Int) :: (0 : Int) :: (0 : Int) :: (0 : Int) :: (0 : Int) :: (0 : Int) :: (0 : Int) :: List.append._f [] PUnit.unit (List.drop (17 : Nat) (bufW t k))) (0 : Nat) (List.take ((restW t k).size.min (16 : Nat) * (1 : Nat)) (bytesL (restW t k)))).set ((0 : Nat) + (↑((restW t k).size.min (16 : Nat)) : Int).toNat * (1 : Nat)) (1 : Int)) r0 r1 % (18446744073709551616 : Int), addB (accP (val3 a b c) (val2 r0 r1) t k % (18446744073709551616 : Int)) (accP (val3 a b c) (val2 r0 r1) t k / (18446744073709551616 : Int) % (18446744073709551616 : Int)) (accP (val3 a b c) (val2 r0 r1) t k / (340282366920938463463374607431768211456 : Int)) ((putAt ((0 : Int) :: (0 : Int) :: (0 : Int) :: (0 : Int) :: (0 : Int) :: (0 : Int) :: (0 : Int) :: (0 : Int) :: (0 : Int) :: (0 : Int) :: (0 : Int) :: (0 : Int) :: (0 : Int) :: (0 : Int) :: (0 : Int) :: (0 : Int) :: (0 : Int) :: List.append._f [] PUnit.unit (List.drop (17 : Nat) (bufW t k))) (0 : Nat) (List.take ((restW t k).size.min (16 : Nat) * (1 : Nat)) (bytesL (restW t k)))).set ((0 : Nat) + (↑((restW t k).size.min (16 : Nat)) : Int).toNat * (1 : Nat)) (1 : Int)) r0 r1 / (18446744073709551616 : Int) % (18446744073709551616 : Int), addB (accP (val3 a b c) (val2 r0 r1) t k % (18446744073709551616 : Int)) (accP (val3 a b c) (val2 r0 r1) t k / (18446744073709551616 : Int) % (18446744073709551616 : Int)) (accP (val3 a b c) (val2 r0 r1) t k / (340282366920938463463374607431768211456 : Int)) ((putAt ((0 : Int) :: (0 : Int) :: (0 : Int) :: (0 : Int) :: (0 : Int) :: (0 : Int) :: (0 : Int) :: (0 : Int) :: (0 : Int) :: (0 : Int) :: (0 : Int) :: (0 : Int) :: (0 : Int) :: (0 : Int) :: (0 : Int) :: (0 : Int) :: (0 : Int) :: List.append._f [] PUnit.unit (List.drop (17 : Nat) (bufW t k))) (0 : Nat) (List.take ((restW t k).size.min (16 : Nat) * (1 : Nat)) (bytesL (restW t k)))).set ((0 : Nat) + (↑((restW t k).size.min (16 : Nat)) : Int).toNat * (1 : Nat)) (1 : Int)) r0 r1 / (340282366920938463463374607431768211456 : Int), r0, r1, s0, s1] == [accP (val3 a b c) (val2 r0 r1) t (k + (1 : Nat)) % (18446744073709551616 : Int), accP (val3 a b c) (val2 r0 r1) t (k + (1 : Nat)) / (18446744073709551616 : Int) % (18446744073709551616 : Int), accP (val3 a b c) (val2 r0 r1) t (k + (1 : Nat)) / (340282366920938463463374607431768211456 : Int), r0, r1, s0, s1]) (ob true (ob ((putAt ((0 : Int) :: (0 : Int) :: (0 : Int) :: (0 : Int) :: (0 : Int) :: (0 : Int) :: (0 : Int) :: (0 : Int) :: (0 : Int) :: (0 : Int) :: (0 : Int) :: (0 : Int) :: (0 : Int) :: (0 : Int) :: (0 : Int) :: (0 : Int) :: (0 : Int) :: List.append._f [] PUnit.unit (List.drop (17 : Nat) (bufW t k))) (0 : Nat) (List.take ((restW t k).size.min (16 : Nat) * (1 : Nat)) (bytesL (restW t k)))).set ((0 : Nat) + (↑((restW t k).size.min (16 : Nat)) : Int).toNat * (1 : Nat)) (1 : Int) == bufW t (k + (1 : Nat))) True))))))))))))))))))) (K (SV.tup []) [Blk.ints true IntKind.u64 [accP (val3 a b c) (val2 r0 r1) t k % (18446744073709551616 : Int), accP (val3 a b c) (val2 r0 r1) t k / (18446744073709551616 : Int) % (18446744073709551616 : Int), accP (val3 a b c) (val2 r0 r1) t k / (340282366920938463463374607431768211456 : Int), r0, r1, s0, s1], Blk.ints true IntKind.u8 (bufW t k)] []))))))))))) := by kernel_rfl
theorem bytesL_ext (s : ByteArray) (i j : Nat) : bytesL (s.extract i j) = ((bytesL s).take j).drop i := by
  simp [bytesL, List.map_take, List.map_drop, List.extract_eq_take_drop, List.drop_take]
theorem restW_bytes (t : ByteArray) (k : Nat) : bytesL (restW t k) = (bytesL t).drop (16 * k) := by
  rw [restW, bytesL_ext, List.take_of_length_le (by rw [bytesL_len]; omega)]
theorem restW_size (t : ByteArray) (k : Nat) : (restW t k).size = t.size - 16 * k := by
  rw [restW, ByteArray.size_extract]; omega
theorem restW_next (t : ByteArray) (k n : Nat) (h : n = min (t.size - 16 * k) 16) (hk : 16 * k < t.size) : (restW t k).extract n (restW t k).size = restW t (k + 1) := by
  apply bytesL_inj
  rw [bytesL_ext, restW_bytes, restW_bytes, restW_size, List.take_of_length_le (by rw [List.length_drop, bytesL_len]; omega), List.drop_drop]
  by_cases c : 16 ≤ t.size - 16 * k
  · rw [h, Nat.min_eq_right c, show 16 * k + 16 = 16 * (k + 1) by omega]
  · rw [List.drop_eq_nil_of_le (by rw [bytesL_len]; omega), List.drop_eq_nil_of_le (by rw [bytesL_len]; omega)]
theorem pad_put (L : List Int) (n : Nat) (h : n = min L.length 16) : (putAt (List.replicate 17 0) 0 (L.take n)).set n 1 = L.take 16 ++ 1 :: List.replicate (16 - n) (0 : Int) := by
  have hl : (L.take n).length = n := by rw [List.length_take]; omega
  have ht : L.take n = L.take 16 := by
    by_cases c : 16 ≤ L.length
    · rw [h, Nat.min_eq_right c]
    · rw [List.take_of_length_le (by omega), List.take_of_length_le (by omega)]
  have hd : (List.replicate 17 (0 : Int)).drop n = 0 :: List.replicate (16 - n) 0 := by
    rw [List.drop_replicate, show 17 - n = (16 - n) + 1 by omega, List.replicate_succ]
  unfold putAt
  rw [List.take_zero, List.nil_append, Nat.zero_add, hl, hd, ht]
  rw [ht] at hl
  rw [List.set_append_right _ _ (by omega), hl, Nat.sub_self, List.set_cons_zero]
theorem padL_eq (t : ByteArray) (k : Nat) : padL t k = ((bytesL t).drop (16 * k)).take 16 ++ 1 :: List.replicate (16 - min 16 (t.size - 16 * k)) 0 := by rw [padL]
theorem padL_len (t : ByteArray) (k : Nat) : (padL t k).length = 17 := by
  rw [padL_eq, List.length_append, List.length_cons, List.length_replicate, List.length_take, List.length_drop, bytesL_len]; omega
theorem okB_iff {l : List Int} : okB l = true ↔ ∀ x ∈ l, 0 ≤ x ∧ x < 256 := by simp [okB]
theorem padL_ok (t : ByteArray) (k : Nat) : okB (padL t k) = true := by
  rw [okB_iff, padL_eq]
  intro x hx
  rcases List.mem_append.1 hx with h | h
  · exact bytesL_range x (List.mem_of_mem_drop (List.mem_of_mem_take h))
  · rcases List.mem_cons.1 h with rfl | h
    · decide
    · rw [List.mem_replicate] at h
      rw [h.2]; decide
theorem padL_16 (t : ByteArray) (k : Nat) : (padL t k).getD 16 0 ≤ 1 := by
  rw [padL_eq, List.getD_eq_getElem?_getD]
  have hl : (((bytesL t).drop (16 * k)).take 16).length ≤ 16 := by rw [List.length_take]; omega
  rw [List.getElem?_append_right hl]
  generalize 16 - (((bytesL t).drop (16 * k)).take 16).length = i
  cases i with
  | zero => simp
  | succ i =>
    rw [List.getElem?_cons_succ, List.getElem?_replicate]
    split <;> simp
theorem numK_pad (t : ByteArray) (k : Nat) : 0 ≤ numK (padL t k) 0 17 ∧ numK (padL t k) 0 17 < 680564733841876926926749214863536422912 := by
  have h0 := numK_bound (padL_ok t k) 0 8
  have h1 := numK_bound (padL_ok t k) 8 8
  have h2 := okB_get (padL_ok t k) 16
  have h3 := padL_16 t k
  rw [show (256 : Int) ^ 8 = 18446744073709551616 from rfl] at h0 h1
  rw [numK_17]; omega
theorem accP_lt (x r : Int) (t : ByteArray) (h0 : 0 ≤ x) (h1 : x < 1361129467683753853853498429727072845824) (h2 : 0 ≤ r) (h3 : r < 21267647932558653966460912964485513216) : ∀ k, 0 ≤ accP x r t k ∧ accP x r t k < 1361129467683753853853498429727072845824
  | 0 => by rw [accP]; exact ⟨h0, h1⟩
  | k + 1 => by
    rw [accP]
    have ih := accP_lt x r t h0 h1 h2 h3 k
    have hp := numK_pad t k
    have := mul_lt (a := accP x r t k + numK (padL t k) 0 17) (b := r) (m := 2722258935367507707706996859454145691648) (n := 21267647932558653966460912964485513216) (by omega) h2 (by omega) h3
    exact foldP_2 _ this.1 (by omega)
theorem addB_eq (X r0 r1 : Int) (l : List Int) (h0 : 0 ≤ X) : addB (X % 18446744073709551616) (X / 18446744073709551616 % 18446744073709551616) (X / 340282366920938463463374607431768211456) l r0 r1 = foldP ((X + numK l 0 17) * val2 r0 r1) 2 := by
  rw [addB, val2]
  have e : X % 18446744073709551616 + 18446744073709551616 * (X / 18446744073709551616 % 18446744073709551616) + 340282366920938463463374607431768211456 * (X / 340282366920938463463374607431768211456) = X := by omega
  rw [e]
theorem val3_words (a b c : Int) (ba : 0 ≤ a) (ba' : a < 18446744073709551616) (bb : 0 ≤ b) (bb' : b < 18446744073709551616) (bc : 0 ≤ c) (bc' : c < 4) : val3 a b c % 18446744073709551616 = a ∧ val3 a b c / 18446744073709551616 % 18446744073709551616 = b ∧ val3 a b c / 340282366920938463463374607431768211456 = c ∧ 0 ≤ val3 a b c ∧ val3 a b c < 1361129467683753853853498429727072845824 := by
  rw [val3]; refine ⟨by omega, by omega, by omega, by omega, by omega⟩
theorem words_b {X : Int} (h0 : 0 ≤ X) (h1 : X < 1361129467683753853853498429727072845824) : 0 ≤ X % 18446744073709551616 ∧ X % 18446744073709551616 < 18446744073709551616 ∧ 0 ≤ X / 18446744073709551616 % 18446744073709551616 ∧ X / 18446744073709551616 % 18446744073709551616 < 18446744073709551616 ∧ 0 ≤ X / 340282366920938463463374607431768211456 ∧ X / 340282366920938463463374607431768211456 < 4 := by
  refine ⟨by omega, by omega, by omega, by omega, by omega, by omega⟩
theorem bufW_len (t : ByteArray) : ∀ k, (bufW t k).length = 17
  | 0 => by rw [bufW]; rfl
  | k + 1 => by rw [bufW, padL_len]
theorem pWrite_ok : SpecOK Try.prog 40 writeS := by
  have hS : SpecsOK Try.prog [(56, pblockS)] := SpecsOK.cons pblock_ok SpecsOK.nil
  refine m_of mixed hS Try.func40 rfl rfl fun args blks K h => ?_
  split at h
  · rename_i t a b c r0 r1 s0 s1
    rw [ob_iff] at h
    obtain ⟨hb, hK⟩ := h
    simp only [Bool.and_eq_true, decide_eq_true_eq] at hb
    obtain ⟨⟨⟨⟨⟨⟨⟨⟨⟨⟨ba, ba'⟩, bb⟩, bb'⟩, bc0⟩, bc'⟩, br0⟩, br0'⟩, br1⟩, br1'⟩, ht⟩ := hb
    refine ⟨(fun _ st => .inv ((t.size + 15) / 16) fun k => { st with env := (1, .v (.string (restW t k))) :: keep st.env [0, 4], tbl := (st.tbl.set 0 (.ints true .u64 [accP (val3 a b c) (val2 r0 r1) t k % 18446744073709551616, accP (val3 a b c) (val2 r0 r1) t k / 18446744073709551616 % 18446744073709551616, accP (val3 a b c) (val2 r0 r1) t k / 340282366920938463463374607431768211456, r0, r1, s0, s1])).set 1 (.ints true .u8 (bufW t k)) }), 1, ?_⟩
    rw [pWrite_vf]
    obtain ⟨v1, v2, v3, v4, v5⟩ := val3_words a b c ba ba' bb bb' bc0 bc'
    have hR : 0 ≤ val2 r0 r1 ∧ val2 r0 r1 < 21267647932558653966460912964485513216 := by rw [val2]; omega
    have hacc := accP_lt (val3 a b c) (val2 r0 r1) t v4 v5 hR.1 hR.2
    have hadd := fun k => addB_eq (accP (val3 a b c) (val2 r0 r1) t k) r0 r1 (padL t k) (hacc k).1
    have hs : ∀ k, accP (val3 a b c) (val2 r0 r1) t (k + 1) = foldP ((accP (val3 a b c) (val2 r0 r1) t k + numK (padL t k) 0 17) * val2 r0 r1) 2 := fun k => by rw [accP]
    have h0 : accP (val3 a b c) (val2 r0 r1) t 0 = val3 a b c := by rw [accP]
    have hr0 : seq t (restW t 0) = true := by
      rw [seq_iff]; apply bytesL_inj; rw [restW_bytes, Nat.mul_zero, List.drop_zero]
    have hbu : bufW t 0 = [0, 0, 0, 0, 0, 0, 0, 0, 0, 0, 0, 0, 0, 0, 0, 0, 0] := by rw [bufW]
    rw [h0, v1, v2, v3, hbu]
    clear v1 v2 v3 ba ba' bb bb' bc0 bc' h0 hbu
    generalize accP (val3 a b c) (val2 r0 r1) t = acc at *
    (repeat (first | (with_reducible refine ob_true ?_) | refine ob_mk (by first | (with_reducible exact beq_self_eq_true _) | (with_reducible exact nbeq _) | (with_reducible exact nble _) | (with_reducible exact seq_rfl _) | (with_reducible assumption) | (simp only [decide_eq_true_eq, Bool.and_eq_true, beq_iff_eq, Bool.true_and, Bool.and_true, Nat.beq_eq, Nat.ble_eq, true_and, and_true, ge_iff_le, gt_iff_lt, hr0]; first | done | omega)) ?_))
    intro k hk
    have hkl := bufW_len t k
    have hb1 : bufW t (k + 1) = padL t k := by rw [bufW]
    have hsz := restW_size t k
    have hby := restW_bytes t k
    refine bc_mk (fun hlt => ?_) (fun hge => ?_)
    · have hlt := of_decide_eq_true hlt
      rw [hsz] at hlt
      have hmin : (restW t k).size.min 16 = min (t.size - 16 * k) 16 := by rw [hsz]
      have hdr : List.drop 17 (bufW t k) = [] := List.drop_eq_nil_of_le (by rw [hkl]; omega)
      rw [hdr, show ((0 : Int) :: (0 : Int) :: (0 : Int) :: (0 : Int) :: (0 : Int) :: (0 : Int) :: (0 : Int) :: (0 : Int) :: (0 : Int) :: (0 : Int) :: (0 : Int) :: (0 : Int) :: (0 : Int) :: (0 : Int) :: (0 : Int) :: (0 : Int) :: (0 : Int) :: List.append._f [] PUnit.unit []) = List.replicate 17 0 from rfl]
      have hn := restW_next t k _ rfl (by omega)
      have hp := pad_put ((bytesL t).drop (16 * k)) (min (t.size - 16 * k) 16) (by rw [List.length_drop, bytesL_len])
      rw [Nat.min_comm (t.size - 16 * k) 16, ← padL_eq] at hp
      have e1 : ∀ n : Nat, 0 + (n : Int).toNat * 1 = n := fun n => by omega
      rw [e1, hmin, hby, Nat.mul_one, hb1, Nat.min_comm (t.size - 16 * k) 16]
      rw [Nat.min_comm (t.size - 16 * k) 16] at hn
      rw [hp, Int.toNat_natCast, hn, hadd k, ← hs k, seq_rfl, hsz]
      have hpl := padL_len t k
      have hpo := padL_ok t k
      have hp6 := padL_16 t k
      obtain ⟨w1, w2, w3, w4, w5, w6⟩ := words_b (hacc k).1 (hacc k).2
      have hput : (putAt (List.replicate 17 (0 : Int)) 0 (((bytesL t).drop (16 * k)).take (min 16 (t.size - 16 * k)))).length = 17 := by
        have := congrArg List.length hp
        rw [List.length_set, hpl] at this
        exact this
      have hbl : ((bytesL t).drop (16 * k)).length = t.size - 16 * k := by rw [List.length_drop, bytesL_len]
      have hk2 : k < (t.size + 15) / 16 := by omega
      clear hadd hs hp hn hacc hK e1 hdr hmin hb1 hby
      generalize acc (k + 1) = X1 at *
      generalize acc k = X at *
      generalize (bytesL t).drop (16 * k) = L at *
      generalize padL t k = pd at *
      generalize restW t k = rw0 at *
      (repeat (first | (with_reducible refine ob_true ?_) | refine ob_mk (by first | (with_reducible exact beq_self_eq_true _) | (with_reducible exact nbeq _) | (with_reducible exact nble _) | (with_reducible exact seq_rfl _) | (with_reducible assumption) | (simp only [decide_eq_true_eq, Bool.and_eq_true, beq_iff_eq, Bool.true_and, Bool.and_true, Nat.beq_eq, Nat.ble_eq, true_and, and_true, ge_iff_le, gt_iff_lt, hkl, hput, hpl, hpo, Blk.len, List.length_replicate, hbl]; first | done | omega)) ?_))
      refine ⟨hk2, ?_⟩
      (repeat (first | (with_reducible refine ob_true ?_) | refine ob_mk (by first | (with_reducible exact beq_self_eq_true _) | (with_reducible exact nbeq _) | (with_reducible exact nble _) | (with_reducible exact seq_rfl _) | (with_reducible assumption) | (simp only [decide_eq_true_eq, Bool.and_eq_true, beq_iff_eq, Bool.true_and, Bool.and_true, Nat.beq_eq, Nat.ble_eq, true_and, and_true, ge_iff_le, gt_iff_lt]; first | done | omega)) ?_))
      trivial
    · have hge := of_decide_eq_false hge
      have kN : k = (t.size + 15) / 16 := by rw [hsz] at hge; omega
      rw [← kN] at hK
      exact ⟨rfl, hK⟩
  · exact h.elim

end Go.Proofs.Ytinmllbkdjceaaa.Sx
