/- Poly1305: the product by the factor. No condition. -/
import Derived.Test.YtinmllbkdjceaaaSx11
import Derived.Test.YtinmllbkdjceaaaProg
import Derived.Test.YtinmllbkdjceaaaBits
import Derived.Test.YtinmllbkdjceaaaWords
import Derived.Test.YtinmllbkdjceaaaPoly1
namespace Go.Proofs.Ytinmllbkdjceaaa.Sx
open Go Go.Proofs
set_option maxRecDepth 100000
set_option linter.unusedSimpArgs false
set_option linter.unusedVariables false

theorem times_vf (a b c r0 r1 s0 s1 : Int) (K : SV → List Blk → List Nat → Prop) : vf Try.prog [(69, mul64S), (58, add64S), (70, sumS)] (fun _ st => .inv 2 fun k => { st with env := (98, inat k) :: (9, .v (.int .u64 (foldP (mulP a b c r0 r1) k / 340282366920938463463374607431768211456 % 18446744073709551616))) :: (10, .v (.int .u64 (foldP (mulP a b c r0 r1) k / 6277101735386680763835789423207666416102355444464034512896))) :: keep st.env [0], tbl := st.tbl.set 0 (.ints true .u64 [foldP (mulP a b c r0 r1) k % 18446744073709551616, foldP (mulP a b c r0 r1) k / 18446744073709551616 % 18446744073709551616, foldP (mulP a b c r0 r1) k / 340282366920938463463374607431768211456 % 4, r0, r1, s0, s1]) }) Try.f68 [.ptr 0 0] [.ints true .u64 [a, b, c, r0, r1, s0, s1]] K =
  (ob true (ob true (ob true (ob true (ob true (ob (decide ((0 : Int) ≤ a) && decide (a < (18446744073709551616 : Int)) && decide ((0 : Int) ≤ r0) && decide (r0 < (18446744073709551616 : Int))) (ob true (ob true (ob (decide ((0 : Int) ≤ a) && decide (a < (18446744073709551616 : Int)) && decide ((0 : Int) ≤ r1) && decide (r1 < (18446744073709551616 : Int)) && decide ((0 : Int) ≤ b) && decide (b < (18446744073709551616 : Int)) && decide ((0 : Int) ≤ r0) && decide (r0 < (18446744073709551616 : Int))) (ob true (ob true (ob (decide ((0 : Int) ≤ b) && decide (b < (18446744073709551616 : Int)) && decide ((0 : Int) ≤ r1) && decide (r1 < (18446744073709551616 : Int)) && decide ((0 : Int) ≤ c) && decide (c < (18446744073709551616 : Int)) && decide ((0 : Int) ≤ r0) && decide (r0 < (18446744073709551616 : Int))) (ob true (ob (decide ((0 : Int) ≤ (a * r1 + b * r0) % (18446744073709551616 : Int)) && decide ((0 : Int) ≤ a * r0 / (18446744073709551616 : Int)) && true && true) (ob (decide ((0 : Int) ≤ (b * r1 + c * r0) % (18446744073709551616 : Int)) && decide ((0 : Int) ≤ (a * r1 + b * r0) / (18446744073709551616 : Int) % (18446744073709551616 : Int)) && decide ((0 : Int) ≤ ((a * r1 + b * r0) % (18446744073709551616 : Int) + a * r0 / (18446744073709551616 : Int) + (0 : Int)) / (18446744073709551616 : Int)) && decide (((a * r1 + b * r0) % (18446744073709551616 : Int) + a * r0 / (18446744073709551616 : Int) + (0 : Int)) / (18446744073709551616 : Int) ≤ (1 : Int))) (ob true (ob true (ob true (ob true (ob (((b * r1 + c * r0) % (18446744073709551616 : Int) + (a * r1 + b * r0) / (18446744073709551616 : Int) % (18446744073709551616 : Int) + ((a * r1 + b * r0) % (18446744073709551616 : Int) + a * r0 / (18446744073709551616 : Int) + (0 : Int)) / (18446744073709551616 : Int)) % (18446744073709551616 : Int) == foldP (mulP a b c r0 r1) (0 : Nat) / (340282366920938463463374607431768211456 : Int) % (18446744073709551616 : Int)) (ob (IntKind.u64.wrap (IntKind.u64.wrap (c * r1) + IntKind.u64.wrap ((b * r1 + c * r0) / (18446744073709551616 : Int) % (18446744073709551616 : Int) + ((b * r1 + c * r0) % (18446744073709551616 : Int) + (a * r1 + b * r0) / (18446744073709551616 : Int) % (18446744073709551616 : Int) + ((a * r1 + b * r0) % (18446744073709551616 : Int) + a * r0 / (18446744073709551616 : Int) + (0 : Int)) / (18446744073709551616 : Int)) / (18446744073709551616 : Int))) == foldP (mulP a b c r0 r1) (0 : Nat) / (6277101735386680763835789423207666416102355444464034512896 : Int)) (ob true (ob true (ob true (ob ([a * r0 % (18446744073709551616 : Int), ((a * r1 + b * r0) % (18446744073709551616 : Int) + a * r0 / (18446744073709551616 : Int) + (0 : Int)) % (18446744073709551616 : Int), iand IntKind.u64 (((b * r1 + c * r0) % (18446744073709551616 : Int) + (a * r1 + b * r0) / (18446744073709551616 : Int) % (18446744073709551616 : Int) + ((a * r1 + b * r0) % (18446744073709551616 : Int) + a * r0 / (18446744073709551616 : Int) + (0 : Int)) / (18446744073709551616 : Int)) % (18446744073709551616 : Int)) (3 : Int), r0, r1, s0, s1] == [foldP (mulP a b c r0 r1) (0 : Nat) % (18446744073709551616 : Int), foldP (mulP a b c r0 r1) (0 : Nat) / (18446744073709551616 : Int) % (18446744073709551616 : Int), foldP (mulP a b c r0 r1) (0 : Nat) / (340282366920938463463374607431768211456 : Int) % (4 : Int), r0, r1, s0, s1]) (∀ (k : Nat), k ≤ (2 : Nat) → bc (decide ((↑k : Int) < (2 : Int))) (bc (ior IntKind.u64 (iandn IntKind.u64 (foldP (mulP a b c r0 r1) k / (340282366920938463463374607431768211456 : Int) % (18446744073709551616 : Int)) (3 : Int)) (foldP (mulP a b c r0 r1) k / (6277101735386680763835789423207666416102355444464034512896 : Int)) == (0 : Int)) (K (SV.tup []) [Blk.ints true IntKind.u64 [foldP (mulP a b c r0 r1) k % (18446744073709551616 : Int), foldP (mulP a b c r0 r1) k / (18446744073709551616 : Int) % (18446744073709551616 : Int), foldP (mulP a b c r0 r1) k / (340282366920938463463374607431768211456 : Int) % (4 : Int), r0, r1, s0, s1]] []) (ob true (ob (decide ((0 : Int) ≤ foldP (mulP a b c r0 r1) k % (18446744073709551616 : Int)) && true && true && true) (ob true (ob true (ob (decide ((0 : Int) ≤ foldP (mulP a b c r0 r1) k / (18446744073709551616 : Int) % (18446744073709551616 : Int)) && decide ((0 : Int) ≤ foldP (mulP a b c r0 r1) k / (6277101735386680763835789423207666416102355444464034512896 : Int)) && decide ((0 : Int) ≤ (foldP (mulP a b c r0 r1) k % (18446744073709551616 : Int) + iandn IntKind.u64 (foldP (mulP a b c r0 r1) k / (340282366920938463463374607431768211456 : Int) % (18446744073709551616 : Int)) (3 : Int) + (0 : Int)) / (18446744073709551616 : Int)) && decide ((foldP (mulP a b c r0 r1) k % (18446744073709551616 : Int) + iandn IntKind.u64 (foldP (mulP a b c r0 r1) k / (340282366920938463463374607431768211456 : Int) % (18446744073709551616 : Int)) (3 : Int) + (0 : Int)) / (18446744073709551616 : Int) ≤ (1 : Int))) (ob true (ob true (ob true (ob true (ob true (ob true (ob true (ob (decide ((0 : Int) ≤ (foldP (mulP a b c r0 r1) k % (18446744073709551616 : Int) + iandn IntKind.u64 (foldP (mulP a b c r0 r1) k / (340282366920938463463374607431768211456 : Int) % (18446744073709551616 : Int)) (3 : Int) + (0 : Int)) % (18446744073709551616 : Int)) && true && true && true) (ob true (ob true (ob (decide ((0 : Int) ≤ (foldP (mulP a b c r0 r1) k / (18446744073709551616 : Int) % (18446744073709551616 : Int) + foldP (mulP a b c r0 r1) k / (6277101735386680763835789423207666416102355444464034512896 : Int) + (foldP (mulP a b c r0 r1) k % (18446744073709551616 : Int) + iandn IntKind.u64 (foldP (mulP a b c r0 r1) k / (340282366920938463463374607431768211456 : Int) % (18446744073709551616 : Int)) (3 : Int) + (0 : Int)) / (18446744073709551616 : Int)) % (18446744073709551616 : Int)) && decide ((0 : Int) ≤ ishr IntKind.u64 (foldP (mulP a b c r0 r1) k / (6277101735386680763835789423207666416102355444464034512896 : Int)) (2 : Int)) && decide ((0 : Int) ≤ ((foldP (mulP a b c r0 r1) k % (18446744073709551616 : Int) + iandn IntKind.u64 (foldP (mulP a b c r0 r1) k / (340282366920938463463374607431768211456 : Int) % (18446744073709551616 : Int)) (3 : Int) + (0 : Int)) % (18446744073709551616 : Int) + ior IntKind.u64 (ishr IntKind.u64 (iandn IntKind.u64 (foldP (mulP a b c r0 r1) k / (340282366920938463463374607431768211456 : Int) % (18446744073709551616 : Int)) (3 : Int)) (2 : Int)) (ishl IntKind.u64 (foldP (mulP a b c r0 r1) k / (6277101735386680763835789423207666416102355444464034512896 : Int)) (62 : Int)) + (0 : Int)) / (18446744073709551616 : Int)) && decide (((foldP (mulP a b c r0 r1) k % (18446744073709551616 : Int) + iandn IntKind.u64 (foldP (mulP a b c r0 r1) k / (340282366920938463463374607431768211456 : Int) % (18446744073709551616 : Int)) (3 : Int) + (0 : Int)) % (18446744073709551616 : Int) + ior IntKind.u64 (ishr IntKind.u64 (iandn IntKind.u64 (foldP (mulP a b c r0 r1) k / (340282366920938463463374607431768211456 : Int) % (18446744073709551616 : Int)) (3 : Int)) (2 : Int)) (ishl IntKind.u64 (foldP (mulP a b c r0 r1) k / (6277101735386680763835789423207666416102355444464034512896 : Int)) (62 : Int)) + (0 : Int)) / (18446744073709551616 : Int) ≤ (1 : Int))) (ob true (ob true (ob true (ob true (ob true (ob true (k < (2 : Nat) ∧ ob (IntKind.i64.wrap ((↑k : Int) + (1 : Int)) == (↑(k + (1 : Nat)) : Int)) (ob (IntKind.u64.wrap (IntKind.u64.wrap (foldP (mulP a b c r0 r1) k / (340282366920938463463374607431768211456 : Int) % (4 : Int) + (foldP (mulP a b c r0 r1) k / (18446744073709551616 : Int) % (18446744073709551616 : Int) + foldP (mulP a b c r0 r1) k / (6277101735386680763835789423207666416102355444464034512896 : Int) + (foldP (mulP a b c r0 r1) k % (18446744073709551616 : Int) + iandn IntKind.u64 (foldP (mulP a b c r0 r1) k / (340282366920938463463374607431768211456 : Int) % (18446744073709551616 : Int)) (3 : Int) + (0 : Int)) / (18446744073709551616 : Int)) / (18446744073709551616 : Int)) + ((foldP (mulP a b c r0 r1) k / (18446744073709551616 : Int) % (18446744073709551616 : Int) + foldP (mulP a b c r0 r1) k / (6277101735386680763835789423207666416102355444464034512896 : Int) + (foldP (mulP a b c r0 r1) k % (18446744073709551616 : Int) + iandn IntKind.u64 (foldP (mulP a b c r0 r1) k / (340282366920938463463374607431768211456 : Int) % (18446744073709551616 : Int)) (3 : Int) + (0 : Int)) / (18446744073709551616 : Int)) % (18446744073709551616 : Int) + ishr IntKind.u64 (foldP (mulP a b c r0 r1) k / (6277101735386680763835789423207666416102355444464034512896 : Int)) (2 : Int) + ((foldP (mulP a b c r0 r1) k % (18446744073709551616 : Int) + iandn IntKind.u64 (foldP (mulP a b c r0 r1) k / (340282366920938463463374607431768211456 : Int) % (18446744073709551616 : Int)) (3 : Int) + (0 : Int)) % (18446744073709551616 : Int) + ior IntKind.u64 (ishr IntKind.u64 (iandn IntKind.u64 (foldP (mulP a b c r0 r1) k / (340282366920938463463374607431768211456 : Int) % (18446744073709551616 : Int)) (3 : Int)) (2 : Int)) (ishl IntKind.u64 (foldP (mulP a b c r0 r1) k / (6277101735386680763835789423207666416102355444464034512896 : Int)) (62 : Int)) + (0 : Int)) / (18446744073709551616 : Int)) / (18446744073709551616 : Int)) == foldP (mulP a b c r0 r1) (k + (1 : Nat)) / (340282366920938463463374607431768211456 : Int) % (18446744073709551616 : Int)) (ob ((0 : Int) == foldP (mulP a b c r0 r1) (k + (1 : Nat)) / (6277101735386680763835789423207666416102355444464034512896 : Int)) (ob true (ob true (ob true (ob ([((foldP (mulP a b c r0 r1) k % (18446744073709551616 : Int) + iandn IntKind.u64 (foldP (mulP a b c r0 r1) k / (340282366920938463463374607431768211456 : Int) % (18446744073709551616 : Int)) (3 : Int) + (0 : Int)) % (18446744073709551616 : Int) + ior IntKind.u64 (ishr IntKind.u64 (iandn IntKind.u64 (foldP (mulP a b c r0 r1) k / (340282366920938463463374607431768211456 : Int) % (18446744073709551616 : Int)) (3 : Int)) (2 : Int)) (ishl IntKind.u64 (foldP (mulP a b c r0 r1) k / (6277101735386680763835789423207666416102355444464034512896 : Int)) (62 : Int)) + (0 : Int)) % (18446744073709551616 : Int), ((foldP (mulP a b c r0 r1) k / (18446744073709551616 : Int) % (18446744073709551616 : Int) + foldP (mulP a b c r0 r1) k / (6277101735386680763835789423207666416102355444464034512896 : Int) + (foldP (mulP a b c r0 r1) k % (18446744073709551616 : Int) + iandn IntKind.u64 (foldP (mulP a b c r0 r1) k / (340282366920938463463374607431768211456 : Int) % (18446744073709551616 : Int)) (3 : Int) + (0 : Int)) / (18446744073709551616 : Int)) % (18446744073709551616 : Int) + ishr IntKind.u64 (foldP (mulP a b c r0 r1) k / (6277101735386680763835789423207666416102355444464034512896 : Int)) (2 : Int) + ((foldP (mulP a b c r0 r1) k % (18446744073709551616 : Int) + iandn IntKind.u64 (foldP (mulP a b c r0 r1) k / (340282366920938463463374607431768211456 : Int) % (18446744073709551616 : Int)) (3 : Int) + (0 : Int)) % (18446744073709551616 : Int) + ior IntKind.u64 (ishr IntKind.u64 (iandn IntKind.u64 (foldP (mulP a b c r0 r1) k / (340282366920938463463374607431768211456 : Int) % (18446744073709551616 : Int)) (3 : Int)) (2 : Int)) (ishl IntKind.u64 (foldP (mulP a b c r0 r1) k / (6277101735386680763835789423207666416102355444464034512896 : Int)) (62 : Int)) + (0 : Int)) / (18446744073709551616 : Int)) % (18446744073709551616 : Int), iand IntKind.u64 (IntKind.u64.wrap (IntKind.u64.wrap (foldP (mulP a b c r0 r1) k / (340282366920938463463374607431768211456 : Int) % (4 : Int) + (foldP (mulP a b c r0 r1) k / (18446744073709551616 : Int) % (18446744073709551616 : Int) + foldP (mulP a b c r0 r1) k / (6277101735386680763835789423207666416102355444464034512896 : Int) + (foldP (mulP a b c r0 r1) k % (18446744073709551616 : Int) + iandn IntKind.u64 (foldP (mulP a b c r0 r1) k / (340282366920938463463374607431768211456 : Int) % (18446744073709551616 : Int)) (3 : Int) + (0 : Int)) / (18446744073709551616 : Int)) / (18446744073709551616 : Int)) + ((foldP (mulP a b c r0 r1) k / (18446744073709551616 : Int) % (18446744073709551616 : Int) + foldP (mulP a b c r0 r1) k / (6277101735386680763835789423207666416102355444464034512896 : Int) + (foldP (mulP a b c r0 r1) k % (18446744073709551616 : Int) + iandn IntKind.u64 (foldP (mulP a b c r0 r1) k / (340282366920938463463374607431768211456 : Int) % (18446744073709551616 : Int)) (3 : Int) + (0 : Int)) / (18446744073709551616 : Int)) % (18446744073709551616 : Int) + ishr IntKind.u64 (foldP (mulP a b c r0 r1) k / (6277101735386680763835789423207666416102355444464034512896 : Int)) (2 : Int) + ((foldP (mulP a b c r0 r1) k % (18446744073709551616 : Int) + iandn IntKind.u64 (foldP (mulP a b c r0 r1) k / (340282366920938463463374607431768211456 : Int) % (18446744073709551616 : Int)) (3 : Int) + (0 : Int)) % (18446744073709551616 : Int) + ior IntKind.u64 (ishr IntKind.u64 (iandn IntKind.u64 (foldP (mulP a b c r0 r1) k / (340282366920938463463374607431768211456 : Int) % (18446744073709551616 : Int)) (3 : Int)) (2 : Int)) (ishl IntKind.u64 (foldP (mulP a b c r0 r1) k / (6277101735386680763835789423207666416102355444464034512896 : Int)) (62 : Int)) + (0 : Int)) / (18446744073709551616 : Int)) / (18446744073709551616 : Int))) (3 : Int), r0, r1, s0, s1] == [foldP (mulP a b c r0 r1) (k + (1 : Nat)) % (18446744073709551616 : Int), foldP (mulP a b c r0 r1) (k + (1 : Nat)) / (18446744073709551616 : Int) % (18446744073709551616 : Int), foldP (mulP a b c r0 r1) (k + (1 : Nat)) / (340282366920938463463374607431768211456 : Int) % (4 : Int), r0, r1, s0, s1]) True)))))))))))))))))))))))))))))) (K (SV.tup []) [Blk.ints true IntKind.u64 [foldP (mulP a b c r0 r1) k % (18446744073709551616 : Int), foldP (mulP a b c r0 r1) k / (18446744073709551616 : Int) % (18446744073709551616 : Int), foldP (mulP a b c r0 r1) k / (340282366920938463463374607431768211456 : Int) % (4 : Int), r0, r1, s0, s1]] []))))))))))))))))))))))))))) := by kernel_rfl
theorem iand3 (x : Int) (h0 : 0 ≤ x) (h1 : x < 18446744073709551616) : iand .u64 x 3 = x % 4 := iand_mask .u64 x 2 4 (by decide) (by decide) rfl h0 h1
theorem iandn3w (x : Int) (h0 : 0 ≤ x) (h1 : x < 18446744073709551616) : iandn .u64 x 3 = x - x % 4 := by
  obtain ⟨n, rfl⟩ := Int.eq_ofNat_of_zero_le h0
  have hn : n < 2 ^ 64 := by omega
  have e : (BitVec.ofNat 64 n &&& ~~~ (3#64)) = (BitVec.ofNat 64 n >>> 2) <<< 2 := by
    have h3 : ∀ i, i < 64 → (3#64).getLsbD i = decide (i < 2) := by decide
    apply BitVec.eq_of_getLsbD_eq
    intro i hi
    rw [BitVec.getLsbD_and, BitVec.getLsbD_not, h3 i hi, BitVec.getLsbD_shiftLeft, BitVec.getLsbD_ushiftRight]
    by_cases h2 : i < 2
    · simp [h2]
    · simp [h2, hi, show 2 + (i - 2) = i by omega]
  unfold iandn
  show IntKind.u64.wrap (((BitVec.ofInt 64 (n : Int) &&& ~~~ (3#64)).toNat : Nat) : Int) = _
  rw [BitVec.ofInt_natCast, e, BitVec.toNat_shiftLeft, BitVec.toNat_ushiftRight, BitVec.toNat_ofNat, Nat.mod_eq_of_lt hn, Nat.shiftRight_eq_div_pow, Nat.shiftLeft_eq, wrap_u64]
  omega
theorem ior_zero (x y : Int) (h0 : 0 ≤ x) (h1 : x < 18446744073709551616) (h2 : 0 ≤ y) (h3 : y < 18446744073709551616) (h : ior .u64 x y = 0) : x = 0 ∧ y = 0 := by
  obtain ⟨a, rfl⟩ := Int.eq_ofNat_of_zero_le h0
  obtain ⟨b, rfl⟩ := Int.eq_ofNat_of_zero_le h2
  unfold ior at h
  have ha : a < 2 ^ 64 := by omega
  have hb : b < 2 ^ 64 := by omega
  have hlt : a ||| b < 2 ^ 64 := Nat.or_lt_two_pow ha hb
  have e : IntKind.u64.wrap (((BitVec.ofInt 64 (a : Int) ||| BitVec.ofInt 64 (b : Int)).toNat : Nat) : Int) = 0 := h
  rw [BitVec.toNat_or, BitVec.ofInt_natCast, BitVec.ofInt_natCast, BitVec.toNat_ofNat, BitVec.toNat_ofNat, Nat.mod_eq_of_lt ha, Nat.mod_eq_of_lt hb, wrap_u64] at e
  have h4 : a ||| b = 0 := by omega
  have := Nat.or_eq_zero_iff.1 h4
  omega
theorem ior_fold (x h : Int) (h0 : 0 ≤ x) (h1 : x < 18446744073709551616) (h2 : 0 ≤ h) : ior .u64 (ishr .u64 (x - x % 4) 2) (ishl .u64 h 62) = x / 4 + h % 4 * 4611686018427387904 := by
  have e1 : ishr .u64 (x - x % 4) 2 = x / 4 := by
    rw [show ishr .u64 (x - x % 4) 2 = (x - x % 4) / 4 from ishr_div .u64 _ 2 (by decide)]; omega
  have e2 : ishl .u64 h 62 = h % 4 * 4611686018427387904 := by
    show IntKind.u64.wrap (h * 4611686018427387904) = _
    rw [wrap_u64]; omega
  rw [e1, e2]
  exact ior_add .u64 (x / 4) (h % 4) 62 rfl (by decide) (by omega) (by show _ < (4611686018427387904 : Int); omega) (by omega) (by show _ < (18446744073709551616 : Int); omega)
theorem ishr_2 (x : Int) : ishr .u64 x 2 = x / 4 := ishr_div .u64 x 2 (by decide)
theorem carry1 {x y : Int} (h0 : 0 ≤ x) (h1 : x < 18446744073709551616) (h2 : 0 ≤ y) (h3 : y < 18446744073709551616) {c : Int} (h4 : 0 ≤ c) (h5 : c ≤ 1) : 0 ≤ (x + y + c) / 18446744073709551616 ∧ (x + y + c) / 18446744073709551616 ≤ 1 := by omega
theorem em (x : Int) : 0 ≤ x % 18446744073709551616 ∧ x % 18446744073709551616 < 18446744073709551616 := by omega
theorem hi_b {N : Int} (h0 : 0 ≤ N) (h1 : N < 57896044618658097711785492504343953926634992332820282019728792003956564819968) : 0 ≤ N / 6277101735386680763835789423207666416102355444464034512896 ∧ N / 6277101735386680763835789423207666416102355444464034512896 < 9223372036854775808 := by omega
theorem lo_b {w : Int} (h : 0 ≤ w ∧ w < 18446744073709551616) : 0 ≤ w - w % 4 ∧ w - w % 4 < 18446744073709551616 := by omega
theorem lo2_b {w h : Int} (h0 : 0 ≤ w ∧ w < 18446744073709551616) : 0 ≤ w / 4 + h % 4 * 4611686018427387904 ∧ w / 4 + h % 4 * 4611686018427387904 < 18446744073709551616 := by omega
theorem h2_b {h : Int} (h0 : 0 ≤ h ∧ h < 9223372036854775808) : 0 ≤ h / 4 ∧ h / 4 < 18446744073709551616 := by omega
theorem h_b {h : Int} (h0 : 0 ≤ h ∧ h < 9223372036854775808) : h < 18446744073709551616 := by omega
theorem small_b {N : Int} (h0 : 0 ≤ N) (h1 : N / 340282366920938463463374607431768211456 % 18446744073709551616 - N / 340282366920938463463374607431768211456 % 18446744073709551616 % 4 = 0) (h2 : N / 6277101735386680763835789423207666416102355444464034512896 = 0) : N < 1361129467683753853853498429727072845824 := by omega
theorem mul_lt {a b m n : Int} (ha : 0 ≤ a) (hb : 0 ≤ b) (h1 : a < m) (h2 : b < n) : 0 ≤ a * b ∧ a * b ≤ (m - 1) * (n - 1) := 
  ⟨Int.mul_nonneg ha hb, Int.mul_le_mul (by omega) (by omega) hb (by omega)⟩
theorem product (a b c r0 r1 : Int) : mulP a b c r0 r1 = a * r0 + 18446744073709551616 * (a * r1 + b * r0) + 340282366920938463463374607431768211456 * (b * r1 + c * r0) + 6277101735386680763835789423207666416102355444464034512896 * (c * r1) := by
  rw [mulP]; grind
theorem words4 (x0 x1 x2 x3 P : Int) (hP : P = x0 + 18446744073709551616 * x1 + 340282366920938463463374607431768211456 * x2 + 6277101735386680763835789423207666416102355444464034512896 * x3)
    (h0 : 0 ≤ x0) (h1 : 0 ≤ x1) (h2 : 0 ≤ x2) (h3 : 0 ≤ x3) (b1 : x1 < 85070591730234615865843651857942052864) (b2 : x2 < 85070591730234615865843651857942052864) (b3 : x3 < 9223372036854775808) (b0 : x0 < 85070591730234615865843651857942052864) :
    P % 18446744073709551616 = x0 % 18446744073709551616 ∧ P / 18446744073709551616 % 18446744073709551616 = (x1 % 18446744073709551616 + x0 / 18446744073709551616 + 0) % 18446744073709551616 ∧
    P / 340282366920938463463374607431768211456 % 18446744073709551616 = (x2 % 18446744073709551616 + x1 / 18446744073709551616 % 18446744073709551616 + (x1 % 18446744073709551616 + x0 / 18446744073709551616 + 0) / 18446744073709551616) % 18446744073709551616 ∧
    P / 6277101735386680763835789423207666416102355444464034512896 = (x3 % 18446744073709551616 + (x2 / 18446744073709551616 % 18446744073709551616 + (x2 % 18446744073709551616 + x1 / 18446744073709551616 % 18446744073709551616 + (x1 % 18446744073709551616 + x0 / 18446744073709551616 + 0) / 18446744073709551616) / 18446744073709551616) % 18446744073709551616) % 18446744073709551616 := by
  refine ⟨by omega, by omega, by omega, by omega⟩
theorem foldP_0 (P : Int) : foldP P 0 = P := by rw [foldP]
theorem foldP_s (P : Int) (k : Nat) : foldP P (k + 1) = foldP P k % 1361129467683753853853498429727072845824 + 5 * (foldP P k / 1361129467683753853853498429727072845824) := by rw [foldP]
theorem foldP_lt (P : Int) (h0 : 0 ≤ P) (h1 : P < 57896044618658097711785492504343953926634992332820282019728792003956564819968) : ∀ k, 0 ≤ foldP P k ∧ foldP P k < 57896044618658097711785492504343953926634992332820282019728792003956564819968
  | 0 => by rw [foldP_0]; exact ⟨h0, h1⟩
  | k + 1 => by
    have := foldP_lt P h0 h1 k
    rw [foldP_s]; omega
theorem foldP_2 (P : Int) (h0 : 0 ≤ P) (h1 : P < 57896044618658097711785492504343953926634992332820282019728792003956564819968) : 0 ≤ foldP P 2 ∧ foldP P 2 < 1361129467683753853853498429727072845824 := by
  rw [foldP_s, foldP_s, foldP_0]; omega
theorem foldP_small (P : Int) (k : Nat) (h : 0 ≤ foldP P k) (h1 : foldP P k < 1361129467683753853853498429727072845824) : ∀ m, foldP P (k + m) = foldP P k
  | 0 => rfl
  | m + 1 => by rw [← Nat.add_assoc, foldP_s, foldP_small P k h h1 m]; omega
theorem stepP (N w0 w1 w2 h lo lo2 h2 : Int) (hN : 0 ≤ N) (hN2 : N < 57896044618658097711785492504343953926634992332820282019728792003956564819968)
    (e0 : w0 = N % 18446744073709551616) (e1 : w1 = N / 18446744073709551616 % 18446744073709551616) (e2 : w2 = N / 340282366920938463463374607431768211456 % 18446744073709551616) (e3 : h = N / 6277101735386680763835789423207666416102355444464034512896)
    (e4 : lo = w2 - w2 % 4) (e5 : lo2 = w2 / 4 + h % 4 * 4611686018427387904) (e6 : h2 = h / 4) (k1 v0 k2 v1 c1 k3 u0 k4 u1 c2 : Int)
    (f0 : k1 = (w0 + lo + 0) / 18446744073709551616) (f1 : v0 = (w0 + lo + 0) % 18446744073709551616) (f2 : k2 = (w1 + h + k1) / 18446744073709551616) (f3 : v1 = (w1 + h + k1) % 18446744073709551616)
    (f4 : c1 = (N / 340282366920938463463374607431768211456 % 4 + k2) % 18446744073709551616) (f5 : k3 = (v0 + lo2 + 0) / 18446744073709551616) (f6 : u0 = (v0 + lo2 + 0) % 18446744073709551616) (f7 : k4 = (v1 + h2 + k3) / 18446744073709551616) (f8 : u1 = (v1 + h2 + k3) % 18446744073709551616)
    (f9 : c2 = (c1 + k4) % 18446744073709551616) (N2 : Int) (g : N2 = N % 1361129467683753853853498429727072845824 + 5 * (N / 1361129467683753853853498429727072845824)) :
    u0 = N2 % 18446744073709551616 ∧ u1 = N2 / 18446744073709551616 % 18446744073709551616 ∧ c2 = N2 / 340282366920938463463374607431768211456 % 18446744073709551616 ∧ N2 / 6277101735386680763835789423207666416102355444464034512896 = 0 ∧ c2 % 4 = N2 / 340282366920938463463374607431768211456 % 4 := by
  have q1 : lo + 18446744073709551616 * h = 4 * (N / 1361129467683753853853498429727072845824) := by subst e2 e3 e4; clear f0 f1 f2 f3 f4 f5 f6 f7 f8 f9 g e0 e1 e5 e6; omega
  have q2 : lo2 + 18446744073709551616 * h2 = N / 1361129467683753853853498429727072845824 := by subst e2 e3 e5 e6; clear f0 f1 f2 f3 f4 f5 f6 f7 f8 f9 g e0 e1 e4; omega
  have q3 : N % 1361129467683753853853498429727072845824 = w0 + 18446744073709551616 * w1 + 340282366920938463463374607431768211456 * (N / 340282366920938463463374607431768211456 % 4) := by subst e0 e1; clear f0 f1 f2 f3 f4 f5 f6 f7 f8 f9 g e2 e3 e4 e5 e6 q1 q2; omega
  have a1 : N2 = (w0 + 18446744073709551616 * w1 + 340282366920938463463374607431768211456 * (N / 340282366920938463463374607431768211456 % 4)) + (lo + 18446744073709551616 * h) + (lo2 + 18446744073709551616 * h2) := by rw [g, q1, q2, q3]; clear f0 f1 f2 f3 f4 f5 f6 f7 f8 f9 g e0 e1 e2 e3 e4 e5 e6 q1 q2 q3; omega
  have bw2 : 0 ≤ w2 ∧ w2 < 18446744073709551616 := by subst e2; clear f0 f1 f2 f3 f4 f5 f6 f7 f8 f9 g e0 e1 e3 e4 e5 e6 q1 q2 q3 a1; omega
  have bh : 0 ≤ h ∧ h < 9223372036854775808 := by subst e3; clear f0 f1 f2 f3 f4 f5 f6 f7 f8 f9 g e0 e1 e2 e4 e5 e6 q1 q2 q3 a1; omega
  have bw0 : 0 ≤ w0 ∧ w0 < 18446744073709551616 := by subst e0; clear f0 f1 f2 f3 f4 f5 f6 f7 f8 f9 g e1 e2 e3 e4 e5 e6 q1 q2 q3 a1; omega
  have bw1 : 0 ≤ w1 ∧ w1 < 18446744073709551616 := by subst e1; clear f0 f1 f2 f3 f4 f5 f6 f7 f8 f9 g e0 e2 e3 e4 e5 e6 q1 q2 q3 a1; omega
  have a3 : 0 ≤ N / 340282366920938463463374607431768211456 % 4 ∧ N / 340282366920938463463374607431768211456 % 4 < 4 := by clear f0 f1 f2 f3 f4 f5 f6 f7 f8 f9 g e0 e1 e2 e3 e4 e5 e6 q1 q2 q3 a1; omega
  have a2 : 0 ≤ lo ∧ lo < 18446744073709551616 ∧ 0 ≤ lo2 ∧ lo2 < 18446744073709551616 ∧ 0 ≤ h2 ∧ h2 < 2305843009213693952 := by clear f0 f1 f2 f3 f4 f5 f6 f7 f8 f9 g e0 e1 e2 e3 q1 q2 q3 a1 a3 bw0 bw1; omega
  clear e0 e1 e2 e3 e4 e5 e6 g hN hN2 q1 q2 q3 bw2
  generalize N / 340282366920938463463374607431768211456 % 4 = w at *
  have r1 : w0 + lo = 18446744073709551616 * k1 + v0 ∧ 0 ≤ v0 ∧ v0 < 18446744073709551616 ∧ 0 ≤ k1 ∧ k1 ≤ 1 := by clear f2 f3 f4 f5 f6 f7 f8 f9 a1; omega
  clear f0 f1
  have r2 : w1 + h + k1 = 18446744073709551616 * k2 + v1 ∧ 0 ≤ v1 ∧ v1 < 18446744073709551616 ∧ 0 ≤ k2 ∧ k2 ≤ 1 := by clear f4 f5 f6 f7 f8 f9 a1; omega
  clear f2 f3
  have r3 : c1 = w + k2 := by clear f5 f6 f7 f8 f9 a1 r1; omega
  clear f4
  have r4 : v0 + lo2 = 18446744073709551616 * k3 + u0 ∧ 0 ≤ u0 ∧ u0 < 18446744073709551616 ∧ 0 ≤ k3 ∧ k3 ≤ 1 := by clear f7 f8 f9 a1 r2 r3; omega
  clear f5 f6
  have r5 : v1 + h2 + k3 = 18446744073709551616 * k4 + u1 ∧ 0 ≤ u1 ∧ u1 < 18446744073709551616 ∧ 0 ≤ k4 ∧ k4 ≤ 1 := by clear f9 a1 r1 r3; omega
  clear f7 f8
  have r6 : c2 = c1 + k4 ∧ 0 ≤ c2 ∧ c2 < 8 := by clear a1 r1 r4; omega
  clear f9
  have b1 : N2 = u0 + 18446744073709551616 * u1 + 340282366920938463463374607431768211456 * c2 := by omega
  have b2 : 0 ≤ u0 ∧ u0 < 18446744073709551616 ∧ 0 ≤ u1 ∧ u1 < 18446744073709551616 ∧ 0 ≤ c2 ∧ c2 < 8 := by omega
  clear r1 r2 r3 r4 r5 r6 a1 a2 a3 bh bw0 bw1
  refine ⟨by omega, by omega, by omega, by omega, by omega⟩
theorem times_ok : SpecOK Try.prog 68 timesS := by
  have hS : SpecsOK Try.prog [(69, mul64S), (58, add64S), (70, sumS)] := SpecsOK.cons mul64_ok (SpecsOK.cons add64_ok (SpecsOK.cons psum_ok SpecsOK.nil))
  refine m_of mixed hS Try.func68 rfl rfl fun args blks K h => ?_
  split at h
  · rename_i a b c r0 r1 s0 s1
    rw [ob_iff] at h
    obtain ⟨hb, hK⟩ := h
    simp only [Bool.and_eq_true, decide_eq_true_eq] at hb
    obtain ⟨⟨⟨⟨⟨⟨⟨⟨⟨ba, ba'⟩, bb⟩, bb'⟩, bc0⟩, bc'⟩, br0⟩, br0'⟩, br1⟩, br1'⟩ := hb
    refine ⟨(fun _ st => .inv 2 fun k => { st with env := (98, inat k) :: (9, .v (.int .u64 (foldP (mulP a b c r0 r1) k / 340282366920938463463374607431768211456 % 18446744073709551616))) :: (10, .v (.int .u64 (foldP (mulP a b c r0 r1) k / 6277101735386680763835789423207666416102355444464034512896))) :: keep st.env [0], tbl := st.tbl.set 0 (.ints true .u64 [foldP (mulP a b c r0 r1) k % 18446744073709551616, foldP (mulP a b c r0 r1) k / 18446744073709551616 % 18446744073709551616, foldP (mulP a b c r0 r1) k / 340282366920938463463374607431768211456 % 4, r0, r1, s0, s1]) }), 1, ?_⟩
    rw [times_vf]
    have m0 := mul_lt ba br0 ba' br0'
    have m1 := mul_lt ba br1 ba' br1'
    have m2 := mul_lt bb br0 bb' br0'
    have m3 := mul_lt bb br1 bb' br1'
    have m4 := mul_lt bc0 br0 bc' br0'
    have m5 := mul_lt bc0 br1 bc' br1'
    have hP := product a b c r0 r1
    generalize a * r0 = y0 at *
    generalize a * r1 = y1 at *
    generalize b * r0 = y2 at *
    generalize b * r1 = y3 at *
    generalize c * r0 = y4 at *
    generalize c * r1 = y5 at *
    generalize mulP a b c r0 r1 = P at *
    have hw := words4 y0 (y1 + y2) (y3 + y4) y5 P hP (by omega) (by omega) (by omega) (by omega) (by omega) (by omega) (by omega) (by omega)
    have hP0 : 0 ≤ P ∧ P < 57896044618658097711785492504343953926634992332820282019728792003956564819968 := by omega
    have hlt := foldP_lt P hP0.1 hP0.2
    have h2 := foldP_2 P hP0.1 hP0.2
    have hsm := foldP_small P
    have hst := foldP_s P
    obtain ⟨g0, g1, g2, g3⟩ := hw
    have q2 : 0 ≤ y3 + y4 ∧ 0 ≤ y1 + y2 := by omega
    rw [foldP_0]
    simp only [wrap_u64]
    rw [← g3]
    rw [← g2]
    rw [← g1]
    rw [← g0]
    rw [iand3 _ (by omega) (by omega)]
    have e4 : P / 340282366920938463463374607431768211456 % 18446744073709551616 % 4 = P / 340282366920938463463374607431768211456 % 4 := by omega
    rw [e4]
    clear g0 g1 g2 g3 e4 hP
    (repeat (first | (with_reducible refine ob_true ?_) | refine ob_mk (by first | (with_reducible exact beq_self_eq_true _) | (with_reducible exact nbeq _) | (with_reducible exact nble _) | (with_reducible exact seq_rfl _) | (with_reducible assumption) | (simp only [decide_eq_true_eq, Bool.and_eq_true, beq_iff_eq, Bool.true_and, Bool.and_true, Nat.beq_eq, Nat.ble_eq, true_and, and_true, ge_iff_le, gt_iff_lt]; first | done | omega)) ?_))
    intro k hk
    have hN := hlt k
    have hs := hst k
    have hz : foldP P k < 1361129467683753853853498429727072845824 → foldP P 2 = foldP P k := fun h => by
      have := hsm k hN.1 h (2 - k)
      rwa [show k + (2 - k) = 2 by omega] at this
    have fin : foldP P k < 1361129467683753853853498429727072845824 → K (.tup []) [.ints true .u64 [foldP P k % 18446744073709551616, foldP P k / 18446744073709551616 % 18446744073709551616, foldP P k / 340282366920938463463374607431768211456 % 4, r0, r1, s0, s1]] [] := fun h => by
      rw [hz h] at hK
      have e : foldP P k / 340282366920938463463374607431768211456 % 4 = foldP P k / 340282366920938463463374607431768211456 := by omega
      rw [e]; exact hK
    refine bc_mk (fun hk2 => ?_) (fun hk2 => ?_)
    · have hk2 := of_decide_eq_true hk2
      have e9 : IntKind.i64.wrap ((k : Int) + 1) = ((k + 1 : Nat) : Int) := by rw [wrap_i64 _ (by omega) (by omega)]; omega
      rw [e9]
      generalize foldP P (k + 1) = N2 at *
      generalize foldP P k = N at *
      clear hlt hst hsm h2 hP0 hz hK m0 m1 m2 m3 m4 m5 q2
      have bw2 := em (N / 340282366920938463463374607431768211456)
      have bh := hi_b hN.1 hN.2
      have bw0 := em N
      have bw1 := em (N / 18446744073709551616)
      rw [iandn3w _ bw2.1 bw2.2, ior_fold _ _ bw2.1 bw2.2 bh.1, ishr_2]
      refine bc_mk (fun ht => ?_) (fun _ => ?_)
      · rw [beq_iff_eq] at ht
        have := ior_zero _ _ (lo_b bw2).1 (lo_b bw2).2 bh.1 (h_b bh) ht
        exact ⟨rfl, fin (small_b hN.1 this.1 this.2)⟩
      · clear fin
        have key := stepP N _ _ _ _ _ _ _ hN.1 hN.2 rfl rfl rfl rfl rfl rfl rfl _ _ _ _ _ _ _ _ _ _ rfl rfl rfl rfl rfl rfl rfl rfl rfl rfl N2 hs
        generalize N / 340282366920938463463374607431768211456 % 18446744073709551616 = w2 at *
        generalize N / 6277101735386680763835789423207666416102355444464034512896 = h at *
        generalize N % 18446744073709551616 = w0 at *
        generalize N / 18446744073709551616 % 18446744073709551616 = w1 at *
        have blo := lo_b bw2
        have blo2 := lo2_b (h := h) bw2
        have bh2 := h2_b bh
        generalize w2 - w2 % 4 = lo at *
        generalize w2 / 4 + h % 4 * 4611686018427387904 = lo2 at *
        generalize h / 4 = h2 at *
        have bk1 := carry1 bw0.1 bw0.2 blo.1 blo.2 (c := 0) (by decide) (by decide)
        have bv0 := em (w0 + lo + 0)
        generalize (w0 + lo + 0) % 18446744073709551616 = v0 at *
        generalize (w0 + lo + 0) / 18446744073709551616 = k1 at *
        have bv1 := em (w1 + h + k1)
        have bk3 := carry1 bv0.1 bv0.2 blo2.1 blo2.2 (c := 0) (by decide) (by decide)
        obtain ⟨z0, z1, z2, z3, z4⟩ := key
        generalize (w1 + h + k1) % 18446744073709551616 = v1 at *
        generalize (w1 + h + k1) / 18446744073709551616 = k2 at *
        generalize (v0 + lo2 + 0) % 18446744073709551616 = u0 at *
        generalize (v0 + lo2 + 0) / 18446744073709551616 = k3 at *
        generalize (v1 + h2 + k3) % 18446744073709551616 = u1 at *
        generalize (v1 + h2 + k3) / 18446744073709551616 = k4 at *
        have bc2 := em ((N / 340282366920938463463374607431768211456 % 4 + k2) % 18446744073709551616 + k4)
        generalize ((N / 340282366920938463463374607431768211456 % 4 + k2) % 18446744073709551616 + k4) % 18446744073709551616 = c2 at *
        rw [iand3 _ bc2.1 bc2.2, z4, z3, ← z2, z1, z0]
        have hk3 : k < 2 := by omega
        clear z0 z1 z2 z3 z4 hs hN e9 bc2 hk hk2
        (repeat (first | (with_reducible refine ob_true ?_) | refine ob_mk (by first | (with_reducible exact beq_self_eq_true _) | (with_reducible exact nbeq _) | (with_reducible exact nble _) | (with_reducible exact seq_rfl _) | (with_reducible assumption) | (simp only [decide_eq_true_eq, Bool.and_eq_true, beq_iff_eq, Bool.true_and, Bool.and_true, Nat.beq_eq, Nat.ble_eq, true_and, and_true, ge_iff_le, gt_iff_lt]; first | done | omega)) ?_))
        refine ⟨hk3, ?_⟩
        (repeat (first | (with_reducible refine ob_true ?_) | refine ob_mk (by first | (with_reducible exact beq_self_eq_true _) | (with_reducible exact nbeq _) | (with_reducible exact nble _) | (with_reducible exact seq_rfl _) | (with_reducible assumption) | (simp only [decide_eq_true_eq, Bool.and_eq_true, beq_iff_eq, Bool.true_and, Bool.and_true, Nat.beq_eq, Nat.ble_eq, true_and, and_true, ge_iff_le, gt_iff_lt]; first | done | omega)) ?_))
        trivial
    · have hk2 := of_decide_eq_false hk2
      have k2 : k = 2 := by omega
      exact ⟨rfl, fin (by rw [k2]; exact h2.2)⟩
  · exact h.elim

end Go.Proofs.Ytinmllbkdjceaaa.Sx
