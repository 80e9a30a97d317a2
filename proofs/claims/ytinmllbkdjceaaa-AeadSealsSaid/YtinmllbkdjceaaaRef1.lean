/- The reference's numbers of four words: sums, differences, comparison, bits. No condition. -/
import Derived.Test.YtinmllbkdjceaaaSx11
import Derived.Test.YtinmllbkdjceaaaProg
import Derived.Test.YtinmllbkdjceaaaBits
import Derived.Test.YtinmllbkdjceaaaWords
namespace Go.Proofs.Ytinmllbkdjceaaa.Sx
open Go Go.Proofs
set_option maxRecDepth 100000
set_option linter.unusedSimpArgs false
set_option linter.unusedVariables false

def val4 (a b c d : Int) : Int := a + 18446744073709551616 * b + 340282366920938463463374607431768211456 * c + 6277101735386680763835789423207666416102355444464034512896 * d
def add4 (a0 a1 a2 a3 b0 b1 b2 b3 : Int) : Int := val4 a0 a1 a2 a3 + val4 b0 b1 b2 b3
def sub4 (a0 a1 a2 a3 b0 b1 b2 b3 : Int) : Int := val4 a0 a1 a2 a3 - val4 b0 b1 b2 b3
def okW (a : Int) : Bool := decide (0 ≤ a) && decide (a < 18446744073709551616)
/-- The words of a number, of which so many are laid, from the lowest on. -/
def lay4 (s : Int) : Nat → List Int
  | 0 => [0, 0, 0, 0]
  | k + 1 => (lay4 s k).set k (s / 18446744073709551616 ^ k % 18446744073709551616)
/-- The number of the first words. -/
def low4 (l : List Int) : Nat → Int
  | 0 => 0
  | k + 1 => low4 l k + l.getD k 0 * 18446744073709551616 ^ k
def cAdd (x y : List Int) (k : Nat) : Int := (low4 x k + low4 y k) / 18446744073709551616 ^ k
def cSub (x y : List Int) (k : Nat) : Int := -((low4 x k - low4 y k) / 18446744073709551616 ^ k)
def bit4 (x i : Int) : Bool := decide (x / 2 ^ i.toNat % 2 = 1)
def add01S : Spec := .q fun args blks K => match args, blks with
  | [.ia .u64 [a0, a1, a2, a3], .ia .u64 [b0, b1, b2, b3]], [] => ob (okW a0 && okW a1 && okW a2 && okW a3 && okW b0 && okW b1 && okW b2 && okW b3)
      (K (.tup [.ia .u64 [add4 a0 a1 a2 a3 b0 b1 b2 b3 % 18446744073709551616, add4 a0 a1 a2 a3 b0 b1 b2 b3 / 18446744073709551616 % 18446744073709551616, add4 a0 a1 a2 a3 b0 b1 b2 b3 / 340282366920938463463374607431768211456 % 18446744073709551616, add4 a0 a1 a2 a3 b0 b1 b2 b3 / 6277101735386680763835789423207666416102355444464034512896 % 18446744073709551616], .v (.bool (decide (115792089237316195423570985008687907853269984665640564039457584007913129639936 ≤ add4 a0 a1 a2 a3 b0 b1 b2 b3)))]))
  | _, _ => False
def sub01S : Spec := .q fun args blks K => match args, blks with
  | [.ia .u64 [a0, a1, a2, a3], .ia .u64 [b0, b1, b2, b3]], [] => ob (okW a0 && okW a1 && okW a2 && okW a3 && okW b0 && okW b1 && okW b2 && okW b3)
      (K (.tup [.ia .u64 [sub4 a0 a1 a2 a3 b0 b1 b2 b3 % 18446744073709551616, sub4 a0 a1 a2 a3 b0 b1 b2 b3 / 18446744073709551616 % 18446744073709551616, sub4 a0 a1 a2 a3 b0 b1 b2 b3 / 340282366920938463463374607431768211456 % 18446744073709551616, sub4 a0 a1 a2 a3 b0 b1 b2 b3 / 6277101735386680763835789423207666416102355444464034512896 % 18446744073709551616], .v (.bool (decide (sub4 a0 a1 a2 a3 b0 b1 b2 b3 < 0)))]))
  | _, _ => False
def cmpF (x y : Int) : Int := if x < y then -1 else if y < x then 1 else 0
def cmp01S : Spec := .q fun args blks K => match args, blks with
  | [.ia .u64 [a0, a1, a2, a3], .ia .u64 [b0, b1, b2, b3]], [] => ob (okW a0 && okW a1 && okW a2 && okW a3 && okW b0 && okW b1 && okW b2 && okW b3)
      (K (.v (.int .i64 (cmpF (val4 a0 a1 a2 a3) (val4 b0 b1 b2 b3)))))
  | _, _ => False
def bit01S : Spec := .q fun args blks K => match args, blks with
  | [.ia .u64 [a0, a1, a2, a3], .v (.int .i64 i)], [] => ob (okW a0 && okW a1 && okW a2 && okW a3 && decide (0 ≤ i) && decide (i < 256)) (K (.v (.bool (bit4 (val4 a0 a1 a2 a3) i))))
  | _, _ => False
theorem add01_vf (a0 a1 a2 a3 b0 b1 b2 b3 : Int) (K : SV → List Blk → List Nat → Prop) : vf Try.prog [] (fun _ st => .inv 4 fun k => { st with env := (8, inat k) :: (7, .v (.int .u64 (cAdd [a0, a1, a2, a3] [b0, b1, b2, b3] k))) :: keep st.env [2, 3, 4, 5, 6], tbl := st.tbl.set 3 (.ints true .u64 (lay4 (add4 a0 a1 a2 a3 b0 b1 b2 b3) k)) }) Try.f45 [.ia .u64 [a0, a1, a2, a3], .ia .u64 [b0, b1, b2, b3]] [] K =
  (ob true (ob ((0 : Int) == cAdd [a0, a1, a2, a3] [b0, b1, b2, b3] (0 : Nat)) (ob true (ob true (ob true (ob true (ob true (ob true (ob true (ob true (ob true (ob true (ob ([a0, a1, a2, a3] == [a0, a1, a2, a3]) (ob true (ob ([b0, b1, b2, b3] == [b0, b1, b2, b3]) (ob true (ob true (ob true (ob true (ob true (ob true (ob ([(0 : Int), (0 : Int), (0 : Int), (0 : Int)] == lay4 (add4 a0 a1 a2 a3 b0 b1 b2 b3) (0 : Nat)) (∀ (k : Nat), k ≤ (4 : Nat) → bc (decide ((↑k : Int) < (4 : Int))) (ob (true && decide ((↑k : Int) < (4 : Int))) (ob (decide ((0 : Nat) + (↑k : Int).toNat * (1 : Nat) < (4 : Nat))) (ob (true && decide ((↑k : Int) < (4 : Int))) (ob (decide ((0 : Nat) + (↑k : Int).toNat * (1 : Nat) < (4 : Nat))) (ob (true && decide ((↑k : Int) < (4 : Int))) (ob (decide ((0 : Nat) + (↑k : Int).toNat * (1 : Nat) < (4 : Nat))) (bc (decide (IntKind.u64.wrap ([a0, a1, a2, a3].getD ((0 : Nat) + (↑k : Int).toNat * (1 : Nat)) (0 : Int) + [b0, b1, b2, b3].getD ((0 : Nat) + (↑k : Int).toNat * (1 : Nat)) (0 : Int)) < [a0, a1, a2, a3].getD ((0 : Nat) + (↑k : Int).toNat * (1 : Nat)) (0 : Int))) (ob (true && decide ((↑k : Int) < (4 : Int))) (ob (decide ((0 : Nat) + (↑k : Int).toNat * (1 : Nat) < (lay4 (add4 a0 a1 a2 a3 b0 b1 b2 b3) k).length)) (ob (true && decide ((↑k : Int) < (4 : Int))) (ob (decide ((0 : Nat) + (↑k : Int).toNat * (1 : Nat) < ((lay4 (add4 a0 a1 a2 a3 b0 b1 b2 b3) k).set ((0 : Nat) + (↑k : Int).toNat * (1 : Nat)) (IntKind.u64.wrap (IntKind.u64.wrap ([a0, a1, a2, a3].getD ((0 : Nat) + (↑k : Int).toNat * (1 : Nat)) (0 : Int) + [b0, b1, b2, b3].getD ((0 : Nat) + (↑k : Int).toNat * (1 : Nat)) (0 : Int)) + cAdd [a0, a1, a2, a3] [b0, b1, b2, b3] k))).length)) (bc (decide (((lay4 (add4 a0 a1 a2 a3 b0 b1 b2 b3) k).set ((0 : Nat) + (↑k : Int).toNat * (1 : Nat)) (IntKind.u64.wrap (IntKind.u64.wrap ([a0, a1, a2, a3].getD ((0 : Nat) + (↑k : Int).toNat * (1 : Nat)) (0 : Int) + [b0, b1, b2, b3].getD ((0 : Nat) + (↑k : Int).toNat * (1 : Nat)) (0 : Int)) + cAdd [a0, a1, a2, a3] [b0, b1, b2, b3] k))).getD ((0 : Nat) + (↑k : Int).toNat * (1 : Nat)) (0 : Int) < IntKind.u64.wrap ([a0, a1, a2, a3].getD ((0 : Nat) + (↑k : Int).toNat * (1 : Nat)) (0 : Int) + [b0, b1, b2, b3].getD ((0 : Nat) + (↑k : Int).toNat * (1 : Nat)) (0 : Int)))) (k < (4 : Nat) ∧ ob (IntKind.i64.wrap ((↑k : Int) + (1 : Int)) == (↑(k + (1 : Nat)) : Int)) (ob ((1 : Int) == cAdd [a0, a1, a2, a3] [b0, b1, b2, b3] (k + (1 : Nat))) (ob true (ob true (ob true (ob true (ob true (ob true (ob true (ob true (ob true (ob true (ob ([a0, a1, a2, a3] == [a0, a1, a2, a3]) (ob true (ob ([b0, b1, b2, b3] == [b0, b1, b2, b3]) (ob true (ob true (ob true (ob true (ob true (ob true (ob ((lay4 (add4 a0 a1 a2 a3 b0 b1 b2 b3) k).set ((0 : Nat) + (↑k : Int).toNat * (1 : Nat)) (IntKind.u64.wrap (IntKind.u64.wrap ([a0, a1, a2, a3].getD ((0 : Nat) + (↑k : Int).toNat * (1 : Nat)) (0 : Int) + [b0, b1, b2, b3].getD ((0 : Nat) + (↑k : Int).toNat * (1 : Nat)) (0 : Int)) + cAdd [a0, a1, a2, a3] [b0, b1, b2, b3] k)) == lay4 (add4 a0 a1 a2 a3 b0 b1 b2 b3) (k + (1 : Nat))) True)))))))))))))))))))))) (k < (4 : Nat) ∧ ob (IntKind.i64.wrap ((↑k : Int) + (1 : Int)) == (↑(k + (1 : Nat)) : Int)) (ob ((1 : Int) == cAdd [a0, a1, a2, a3] [b0, b1, b2, b3] (k + (1 : Nat))) (ob true (ob true (ob true (ob true (ob true (ob true (ob true (ob true (ob true (ob true (ob ([a0, a1, a2, a3] == [a0, a1, a2, a3]) (ob true (ob ([b0, b1, b2, b3] == [b0, b1, b2, b3]) (ob true (ob true (ob true (ob true (ob true (ob true (ob ((lay4 (add4 a0 a1 a2 a3 b0 b1 b2 b3) k).set ((0 : Nat) + (↑k : Int).toNat * (1 : Nat)) (IntKind.u64.wrap (IntKind.u64.wrap ([a0, a1, a2, a3].getD ((0 : Nat) + (↑k : Int).toNat * (1 : Nat)) (0 : Int) + [b0, b1, b2, b3].getD ((0 : Nat) + (↑k : Int).toNat * (1 : Nat)) (0 : Int)) + cAdd [a0, a1, a2, a3] [b0, b1, b2, b3] k)) == lay4 (add4 a0 a1 a2 a3 b0 b1 b2 b3) (k + (1 : Nat))) True))))))))))))))))))))))))))) (ob (true && decide ((↑k : Int) < (4 : Int))) (ob (decide ((0 : Nat) + (↑k : Int).toNat * (1 : Nat) < (lay4 (add4 a0 a1 a2 a3 b0 b1 b2 b3) k).length)) (ob (true && decide ((↑k : Int) < (4 : Int))) (ob (decide ((0 : Nat) + (↑k : Int).toNat * (1 : Nat) < ((lay4 (add4 a0 a1 a2 a3 b0 b1 b2 b3) k).set ((0 : Nat) + (↑k : Int).toNat * (1 : Nat)) (IntKind.u64.wrap (IntKind.u64.wrap ([a0, a1, a2, a3].getD ((0 : Nat) + (↑k : Int).toNat * (1 : Nat)) (0 : Int) + [b0, b1, b2, b3].getD ((0 : Nat) + (↑k : Int).toNat * (1 : Nat)) (0 : Int)) + cAdd [a0, a1, a2, a3] [b0, b1, b2, b3] k))).length)) (bc (decide (((lay4 (add4 a0 a1 a2 a3 b0 b1 b2 b3) k).set ((0 : Nat) + (↑k : Int).toNat * (1 : Nat)) (IntKind.u64.wrap (IntKind.u64.wrap ([a0, a1, a2, a3].getD ((0 : Nat) + (↑k : Int).toNat * (1 : Nat)) (0 : Int) + [b0, b1, b2, b3].getD ((0 : Nat) + (↑k : Int).toNat * (1 : Nat)) (0 : Int)) + cAdd [a0, a1, a2, a3] [b0, b1, b2, b3] k))).getD ((0 : Nat) + (↑k : Int).toNat * (1 : Nat)) (0 : Int) < IntKind.u64.wrap ([a0, a1, a2, a3].getD ((0 : Nat) + (↑k : Int).toNat * (1 : Nat)) (0 : Int) + [b0, b1, b2, b3].getD ((0 : Nat) + (↑k : Int).toNat * (1 : Nat)) (0 : Int)))) (k < (4 : Nat) ∧ ob (IntKind.i64.wrap ((↑k : Int) + (1 : Int)) == (↑(k + (1 : Nat)) : Int)) (ob ((1 : Int) == cAdd [a0, a1, a2, a3] [b0, b1, b2, b3] (k + (1 : Nat))) (ob true (ob true (ob true (ob true (ob true (ob true (ob true (ob true (ob true (ob true (ob ([a0, a1, a2, a3] == [a0, a1, a2, a3]) (ob true (ob ([b0, b1, b2, b3] == [b0, b1, b2, b3]) (ob true (ob true (ob true (ob true (ob true (ob true (ob ((lay4 (add4 a0 a1 a2 a3 b0 b1 b2 b3) k).set ((0 : Nat) + (↑k : Int).toNat * (1 : Nat)) (IntKind.u64.wrap (IntKind.u64.wrap ([a0, a1, a2, a3].getD ((0 : Nat) + (↑k : Int).toNat * (1 : Nat)) (0 : Int) + [b0, b1, b2, b3].getD ((0 : Nat) + (↑k : Int).toNat * (1 : Nat)) (0 : Int)) + cAdd [a0, a1, a2, a3] [b0, b1, b2, b3] k)) == lay4 (add4 a0 a1 a2 a3 b0 b1 b2 b3) (k + (1 : Nat))) True)))))))))))))))))))))) (k < (4 : Nat) ∧ ob (IntKind.i64.wrap ((↑k : Int) + (1 : Int)) == (↑(k + (1 : Nat)) : Int)) (ob ((0 : Int) == cAdd [a0, a1, a2, a3] [b0, b1, b2, b3] (k + (1 : Nat))) (ob true (ob true (ob true (ob true (ob true (ob true (ob true (ob true (ob true (ob true (ob ([a0, a1, a2, a3] == [a0, a1, a2, a3]) (ob true (ob ([b0, b1, b2, b3] == [b0, b1, b2, b3]) (ob true (ob true (ob true (ob true (ob true (ob true (ob ((lay4 (add4 a0 a1 a2 a3 b0 b1 b2 b3) k).set ((0 : Nat) + (↑k : Int).toNat * (1 : Nat)) (IntKind.u64.wrap (IntKind.u64.wrap ([a0, a1, a2, a3].getD ((0 : Nat) + (↑k : Int).toNat * (1 : Nat)) (0 : Int) + [b0, b1, b2, b3].getD ((0 : Nat) + (↑k : Int).toNat * (1 : Nat)) (0 : Int)) + cAdd [a0, a1, a2, a3] [b0, b1, b2, b3] k)) == lay4 (add4 a0 a1 a2 a3 b0 b1 b2 b3) (k + (1 : Nat))) True)))))))))))))))))))))))))))))))))) (ob (decide ((lay4 (add4 a0 a1 a2 a3 b0 b1 b2 b3) k).length = (4 : Nat))) (ob ((lay4 (add4 a0 a1 a2 a3 b0 b1 b2 b3) k).length.beq (4 : Nat)) (ob (decide ((lay4 (add4 a0 a1 a2 a3 b0 b1 b2 b3) k).length = (4 : Nat))) (K (SV.tup [SV.ia IntKind.u64 (lay4 (add4 a0 a1 a2 a3 b0 b1 b2 b3) k), SV.v (Value.bool (cAdd [a0, a1, a2, a3] [b0, b1, b2, b3] k == (1 : Int)))]) [Blk.ints true IntKind.u64 [a0, a1, a2, a3], Blk.ints true IntKind.u64 [b0, b1, b2, b3], Blk.ints true IntKind.u64 (lay4 (add4 a0 a1 a2 a3 b0 b1 b2 b3) k), Blk.ints true IntKind.u64 (lay4 (add4 a0 a1 a2 a3 b0 b1 b2 b3) k)] []))))))))))))))))))))))))))) := by kernel_rfl
theorem sub01_vf (a0 a1 a2 a3 b0 b1 b2 b3 : Int) (K : SV → List Blk → List Nat → Prop) : vf Try.prog [] (fun _ st => .inv 4 fun k => { st with env := (8, inat k) :: (7, .v (.int .u64 (cSub [a0, a1, a2, a3] [b0, b1, b2, b3] k))) :: keep st.env [2, 3, 4, 5, 6], tbl := st.tbl.set 3 (.ints true .u64 (lay4 (sub4 a0 a1 a2 a3 b0 b1 b2 b3) k)) }) Try.f62 [.ia .u64 [a0, a1, a2, a3], .ia .u64 [b0, b1, b2, b3]] [] K =
  (ob true (ob ((0 : Int) == cSub [a0, a1, a2, a3] [b0, b1, b2, b3] (0 : Nat)) (ob true (ob true (ob true (ob true (ob true (ob true (ob true (ob true (ob true (ob true (ob ([a0, a1, a2, a3] == [a0, a1, a2, a3]) (ob true (ob ([b0, b1, b2, b3] == [b0, b1, b2, b3]) (ob true (ob true (ob true (ob true (ob true (ob true (ob ([(0 : Int), (0 : Int), (0 : Int), (0 : Int)] == lay4 (sub4 a0 a1 a2 a3 b0 b1 b2 b3) (0 : Nat)) (∀ (k : Nat), k ≤ (4 : Nat) → bc (decide ((↑k : Int) < (4 : Int))) (ob (true && decide ((↑k : Int) < (4 : Int))) (ob (decide ((0 : Nat) + (↑k : Int).toNat * (1 : Nat) < (4 : Nat))) (ob (true && decide ((↑k : Int) < (4 : Int))) (ob (decide ((0 : Nat) + (↑k : Int).toNat * (1 : Nat) < (4 : Nat))) (ob (true && decide ((↑k : Int) < (4 : Int))) (ob (decide ((0 : Nat) + (↑k : Int).toNat * (1 : Nat) < (4 : Nat))) (ob (true && decide ((↑k : Int) < (4 : Int))) (ob (decide ((0 : Nat) + (↑k : Int).toNat * (1 : Nat) < (4 : Nat))) (bc (decide ([a0, a1, a2, a3].getD ((0 : Nat) + (↑k : Int).toNat * (1 : Nat)) (0 : Int) < [b0, b1, b2, b3].getD ((0 : Nat) + (↑k : Int).toNat * (1 : Nat)) (0 : Int))) (ob (true && decide ((↑k : Int) < (4 : Int))) (ob (decide ((0 : Nat) + (↑k : Int).toNat * (1 : Nat) < (lay4 (sub4 a0 a1 a2 a3 b0 b1 b2 b3) k).length)) (k < (4 : Nat) ∧ ob (IntKind.i64.wrap ((↑k : Int) + (1 : Int)) == (↑(k + (1 : Nat)) : Int)) (ob ((1 : Int) == cSub [a0, a1, a2, a3] [b0, b1, b2, b3] (k + (1 : Nat))) (ob true (ob true (ob true (ob true (ob true (ob true (ob true (ob true (ob true (ob true (ob ([a0, a1, a2, a3] == [a0, a1, a2, a3]) (ob true (ob ([b0, b1, b2, b3] == [b0, b1, b2, b3]) (ob true (ob true (ob true (ob true (ob true (ob true (ob ((lay4 (sub4 a0 a1 a2 a3 b0 b1 b2 b3) k).set ((0 : Nat) + (↑k : Int).toNat * (1 : Nat)) (IntKind.u64.wrap (IntKind.u64.wrap ([a0, a1, a2, a3].getD ((0 : Nat) + (↑k : Int).toNat * (1 : Nat)) (0 : Int) - [b0, b1, b2, b3].getD ((0 : Nat) + (↑k : Int).toNat * (1 : Nat)) (0 : Int)) - cSub [a0, a1, a2, a3] [b0, b1, b2, b3] k)) == lay4 (sub4 a0 a1 a2 a3 b0 b1 b2 b3) (k + (1 : Nat))) True)))))))))))))))))))))))) (bc (bif false then true else decide (IntKind.u64.wrap ([a0, a1, a2, a3].getD ((0 : Nat) + (↑k : Int).toNat * (1 : Nat)) (0 : Int) - [b0, b1, b2, b3].getD ((0 : Nat) + (↑k : Int).toNat * (1 : Nat)) (0 : Int)) < cSub [a0, a1, a2, a3] [b0, b1, b2, b3] k)) (ob (true && decide ((↑k : Int) < (4 : Int))) (ob (decide ((0 : Nat) + (↑k : Int).toNat * (1 : Nat) < (lay4 (sub4 a0 a1 a2 a3 b0 b1 b2 b3) k).length)) (k < (4 : Nat) ∧ ob (IntKind.i64.wrap ((↑k : Int) + (1 : Int)) == (↑(k + (1 : Nat)) : Int)) (ob ((1 : Int) == cSub [a0, a1, a2, a3] [b0, b1, b2, b3] (k + (1 : Nat))) (ob true (ob true (ob true (ob true (ob true (ob true (ob true (ob true (ob true (ob true (ob ([a0, a1, a2, a3] == [a0, a1, a2, a3]) (ob true (ob ([b0, b1, b2, b3] == [b0, b1, b2, b3]) (ob true (ob true (ob true (ob true (ob true (ob true (ob ((lay4 (sub4 a0 a1 a2 a3 b0 b1 b2 b3) k).set ((0 : Nat) + (↑k : Int).toNat * (1 : Nat)) (IntKind.u64.wrap (IntKind.u64.wrap ([a0, a1, a2, a3].getD ((0 : Nat) + (↑k : Int).toNat * (1 : Nat)) (0 : Int) - [b0, b1, b2, b3].getD ((0 : Nat) + (↑k : Int).toNat * (1 : Nat)) (0 : Int)) - cSub [a0, a1, a2, a3] [b0, b1, b2, b3] k)) == lay4 (sub4 a0 a1 a2 a3 b0 b1 b2 b3) (k + (1 : Nat))) True)))))))))))))))))))))))) (ob (true && decide ((↑k : Int) < (4 : Int))) (ob (decide ((0 : Nat) + (↑k : Int).toNat * (1 : Nat) < (lay4 (sub4 a0 a1 a2 a3 b0 b1 b2 b3) k).length)) (k < (4 : Nat) ∧ ob (IntKind.i64.wrap ((↑k : Int) + (1 : Int)) == (↑(k + (1 : Nat)) : Int)) (ob ((0 : Int) == cSub [a0, a1, a2, a3] [b0, b1, b2, b3] (k + (1 : Nat))) (ob true (ob true (ob true (ob true (ob true (ob true (ob true (ob true (ob true (ob true (ob ([a0, a1, a2, a3] == [a0, a1, a2, a3]) (ob true (ob ([b0, b1, b2, b3] == [b0, b1, b2, b3]) (ob true (ob true (ob true (ob true (ob true (ob true (ob ((lay4 (sub4 a0 a1 a2 a3 b0 b1 b2 b3) k).set ((0 : Nat) + (↑k : Int).toNat * (1 : Nat)) (IntKind.u64.wrap (IntKind.u64.wrap ([a0, a1, a2, a3].getD ((0 : Nat) + (↑k : Int).toNat * (1 : Nat)) (0 : Int) - [b0, b1, b2, b3].getD ((0 : Nat) + (↑k : Int).toNat * (1 : Nat)) (0 : Int)) - cSub [a0, a1, a2, a3] [b0, b1, b2, b3] k)) == lay4 (sub4 a0 a1 a2 a3 b0 b1 b2 b3) (k + (1 : Nat))) True)))))))))))))))))))))))))))))))))) (ob (decide ((lay4 (sub4 a0 a1 a2 a3 b0 b1 b2 b3) k).length = (4 : Nat))) (ob ((lay4 (sub4 a0 a1 a2 a3 b0 b1 b2 b3) k).length.beq (4 : Nat)) (ob (decide ((lay4 (sub4 a0 a1 a2 a3 b0 b1 b2 b3) k).length = (4 : Nat))) (K (SV.tup [SV.ia IntKind.u64 (lay4 (sub4 a0 a1 a2 a3 b0 b1 b2 b3) k), SV.v (Value.bool (cSub [a0, a1, a2, a3] [b0, b1, b2, b3] k == (1 : Int)))]) [Blk.ints true IntKind.u64 [a0, a1, a2, a3], Blk.ints true IntKind.u64 [b0, b1, b2, b3], Blk.ints true IntKind.u64 (lay4 (sub4 a0 a1 a2 a3 b0 b1 b2 b3) k), Blk.ints true IntKind.u64 (lay4 (sub4 a0 a1 a2 a3 b0 b1 b2 b3) k)] []))))))))))))))))))))))))))) := by kernel_rfl
theorem cmp01_vf (a0 a1 a2 a3 b0 b1 b2 b3 : Int) (K : SV → List Blk → List Nat → Prop) : vf Try.prog [] (fun _ _ => .unroll 6) Try.f60 [.ia .u64 [a0, a1, a2, a3], .ia .u64 [b0, b1, b2, b3]] [] K =
  (ob true (ob true (ob true (ob true (bc (decide (a3 < b3)) (K (SV.v (Value.int IntKind.i64 (-1 : Int))) [Blk.ints true IntKind.u64 [a0, a1, a2, a3], Blk.ints true IntKind.u64 [b0, b1, b2, b3]] []) (ob true (ob true (ob true (ob true (bc (decide (a3 > b3)) (K (SV.v (Value.int IntKind.i64 (1 : Int))) [Blk.ints true IntKind.u64 [a0, a1, a2, a3], Blk.ints true IntKind.u64 [b0, b1, b2, b3]] []) (ob true (ob true (ob true (ob true (bc (decide (a2 < b2)) (K (SV.v (Value.int IntKind.i64 (-1 : Int))) [Blk.ints true IntKind.u64 [a0, a1, a2, a3], Blk.ints true IntKind.u64 [b0, b1, b2, b3]] []) (ob true (ob true (ob true (ob true (bc (decide (a2 > b2)) (K (SV.v (Value.int IntKind.i64 (1 : Int))) [Blk.ints true IntKind.u64 [a0, a1, a2, a3], Blk.ints true IntKind.u64 [b0, b1, b2, b3]] []) (ob true (ob true (ob true (ob true (bc (decide (a1 < b1)) (K (SV.v (Value.int IntKind.i64 (-1 : Int))) [Blk.ints true IntKind.u64 [a0, a1, a2, a3], Blk.ints true IntKind.u64 [b0, b1, b2, b3]] []) (ob true (ob true (ob true (ob true (bc (decide (a1 > b1)) (K (SV.v (Value.int IntKind.i64 (1 : Int))) [Blk.ints true IntKind.u64 [a0, a1, a2, a3], Blk.ints true IntKind.u64 [b0, b1, b2, b3]] []) (ob true (ob true (ob true (ob true (bc (decide (a0 < b0)) (K (SV.v (Value.int IntKind.i64 (-1 : Int))) [Blk.ints true IntKind.u64 [a0, a1, a2, a3], Blk.ints true IntKind.u64 [b0, b1, b2, b3]] []) (ob true (ob true (ob true (ob true (bc (decide (a0 > b0)) (K (SV.v (Value.int IntKind.i64 (1 : Int))) [Blk.ints true IntKind.u64 [a0, a1, a2, a3], Blk.ints true IntKind.u64 [b0, b1, b2, b3]] []) (K (SV.v (Value.int IntKind.i64 (0 : Int))) [Blk.ints true IntKind.u64 [a0, a1, a2, a3], Blk.ints true IntKind.u64 [b0, b1, b2, b3]] []))))))))))))))))))))))))))))))))))))))))) := by kernel_rfl
theorem bit01_vf (a0 a1 a2 a3 i : Int) (K : SV → List Blk → List Nat → Prop) : vf Try.prog [] (noI) Try.f59 [.ia .u64 [a0, a1, a2, a3], .v (.int .i64 i)] [] K =
  (bc (decide (i ≥ (0 : Int))) (bc (bif true then decide (i < (256 : Int)) else false) (ob true (ob (decide ((0 : Int) ≤ IntKind.i64.wrap (i.tdiv (64 : Int))) && decide (IntKind.i64.wrap (i.tdiv (64 : Int)) < (4 : Int))) (ob (decide ((0 : Nat) + (IntKind.i64.wrap (i.tdiv (64 : Int))).toNat * (1 : Nat) < (4 : Nat))) (ob true (ob (decide ((0 : Int) ≤ IntKind.u64.wrap (i.tmod (64 : Int)))) (K (SV.v (Value.bool (bif true then iand IntKind.u64 (ishr IntKind.u64 ([a0, a1, a2, a3].getD ((0 : Nat) + (IntKind.i64.wrap (i.tdiv (64 : Int))).toNat * (1 : Nat)) (0 : Int)) (IntKind.u64.wrap (i.tmod (64 : Int)))) (1 : Int) == (1 : Int) else false))) [Blk.ints true IntKind.u64 [a0, a1, a2, a3]] [])))))) (K (SV.v (Value.bool false)) [Blk.ints true IntKind.u64 [a0, a1, a2, a3]] [])) (K (SV.v (Value.bool false)) [Blk.ints true IntKind.u64 [a0, a1, a2, a3]] [])) := by kernel_rfl
theorem okW_iff {a : Int} : okW a = true ↔ 0 ≤ a ∧ a < 18446744073709551616 := by simp [okW]
theorem low4_s (l : List Int) (k : Nat) : low4 l (k + 1) = low4 l k + l.getD k 0 * 18446744073709551616 ^ k := by rw [low4]
theorem low4_more (l : List Int) (k : Nat) : ∀ j, ∃ R : Int, low4 l (k + j) = low4 l k + R * 18446744073709551616 ^ k
  | 0 => ⟨0, by rw [Nat.add_zero]; omega⟩
  | j + 1 => by
    obtain ⟨R, h⟩ := low4_more l k j
    refine ⟨R + l.getD (k + j) 0 * 18446744073709551616 ^ j, ?_⟩
    rw [← Nat.add_assoc, low4_s, h, Int.pow_add, Int.add_mul]
    have : l.getD (k + j) 0 * (18446744073709551616 ^ k * 18446744073709551616 ^ j) = l.getD (k + j) 0 * 18446744073709551616 ^ j * 18446744073709551616 ^ k := by rw [Int.mul_comm ((18446744073709551616 : Int) ^ k), Int.mul_assoc]
    rw [this]; omega
theorem low4_b {l : List Int} (h : ∀ i, 0 ≤ l.getD i 0 ∧ l.getD i 0 < 18446744073709551616) : ∀ k, 0 ≤ low4 l k ∧ low4 l k < 18446744073709551616 ^ k
  | 0 => by rw [low4]; decide
  | k + 1 => by
    rw [low4_s, Int.pow_succ]
    have h1 := low4_b h k
    have h2 := h k
    have hp : (0 : Int) < 18446744073709551616 ^ k := Int.pow_pos (by decide)
    generalize (18446744073709551616 : Int) ^ k = p at *
    generalize l.getD k 0 = x at *
    generalize low4 l k = m at *
    have h3 : 0 ≤ x * p := Int.mul_nonneg h2.1 (by omega)
    have h4 : x * p ≤ 18446744073709551615 * p := Int.mul_le_mul_of_nonneg_right (by omega) (by omega)
    omega
theorem cAdd_s (x y : List Int) (k : Nat) : cAdd x y (k + 1) = (cAdd x y k + (x.getD k 0 + y.getD k 0)) / 18446744073709551616 := by
  have hp : (18446744073709551616 : Int) ^ k ≠ 0 := Int.ne_of_gt (Int.pow_pos (by decide))
  rw [cAdd, cAdd, low4_s, low4_s, Int.pow_succ, ← Int.ediv_ediv_of_nonneg (Int.le_of_lt (Int.pow_pos (by decide))), ← Int.add_mul_ediv_right _ _ hp, Int.add_mul]
  congr 2; omega
theorem cSub_s (x y : List Int) (k : Nat) : cSub x y (k + 1) = -((x.getD k 0 - y.getD k 0 - cSub x y k) / 18446744073709551616) := by
  have hp : (18446744073709551616 : Int) ^ k ≠ 0 := Int.ne_of_gt (Int.pow_pos (by decide))
  rw [cSub, cSub, low4_s, low4_s, Int.pow_succ, ← Int.ediv_ediv_of_nonneg (Int.le_of_lt (Int.pow_pos (by decide)))]
  have e : low4 x k + x.getD k 0 * 18446744073709551616 ^ k - (low4 y k + y.getD k 0 * 18446744073709551616 ^ k) = low4 x k - low4 y k + (x.getD k 0 - y.getD k 0) * 18446744073709551616 ^ k := by rw [Int.sub_mul]; omega
  rw [e, Int.add_mul_ediv_right _ _ hp]
  congr 2; omega
theorem cAdd_b {x y : List Int} (hx : ∀ i, 0 ≤ x.getD i 0 ∧ x.getD i 0 < 18446744073709551616) (hy : ∀ i, 0 ≤ y.getD i 0 ∧ y.getD i 0 < 18446744073709551616) : ∀ k, 0 ≤ cAdd x y k ∧ cAdd x y k ≤ 1
  | 0 => by rw [cAdd, low4, low4]; decide
  | k + 1 => by
    rw [cAdd_s]
    have h1 := cAdd_b hx hy k
    have h2 := hx k
    have h3 := hy k
    omega
theorem cSub_b {x y : List Int} (hx : ∀ i, 0 ≤ x.getD i 0 ∧ x.getD i 0 < 18446744073709551616) (hy : ∀ i, 0 ≤ y.getD i 0 ∧ y.getD i 0 < 18446744073709551616) : ∀ k, 0 ≤ cSub x y k ∧ cSub x y k ≤ 1
  | 0 => by rw [cSub, low4, low4]; decide
  | k + 1 => by
    rw [cSub_s]
    have h1 := cSub_b hx hy k
    have h2 := hx k
    have h3 := hy k
    omega
theorem add_word (x y : List Int) (S : Int) (hS : S = low4 x 4 + low4 y 4) (k : Nat) (hk : k < 4) : S / 18446744073709551616 ^ k % 18446744073709551616 = (x.getD k 0 + y.getD k 0 + cAdd x y k) % 18446744073709551616 := by
  have hp : (18446744073709551616 : Int) ^ k ≠ 0 := Int.ne_of_gt (Int.pow_pos (by decide))
  obtain ⟨R, h1⟩ := low4_more x (k + 1) (3 - k)
  obtain ⟨Q, h2⟩ := low4_more y (k + 1) (3 - k)
  rw [show k + 1 + (3 - k) = 4 by omega] at h1 h2
  have e : S = low4 x k + low4 y k + (x.getD k 0 + y.getD k 0 + (R + Q) * 18446744073709551616) * 18446744073709551616 ^ k := by
    rw [hS, h1, h2, low4_s, low4_s, Int.pow_succ]
    generalize (18446744073709551616 : Int) ^ k = p
    grind
  rw [e, Int.add_mul_ediv_right _ _ hp, cAdd]
  omega
theorem sub_word (x y : List Int) (S : Int) (hS : S = low4 x 4 - low4 y 4) (k : Nat) (hk : k < 4) : S / 18446744073709551616 ^ k % 18446744073709551616 = (x.getD k 0 - y.getD k 0 - cSub x y k) % 18446744073709551616 := by
  have hp : (18446744073709551616 : Int) ^ k ≠ 0 := Int.ne_of_gt (Int.pow_pos (by decide))
  obtain ⟨R, h1⟩ := low4_more x (k + 1) (3 - k)
  obtain ⟨Q, h2⟩ := low4_more y (k + 1) (3 - k)
  rw [show k + 1 + (3 - k) = 4 by omega] at h1 h2
  have e : S = low4 x k - low4 y k + (x.getD k 0 - y.getD k 0 + (R - Q) * 18446744073709551616) * 18446744073709551616 ^ k := by
    rw [hS, h1, h2, low4_s, low4_s, Int.pow_succ]
    generalize (18446744073709551616 : Int) ^ k = p
    grind
  rw [e, Int.add_mul_ediv_right _ _ hp, cSub]
  omega
theorem lay4_len (s : Int) : ∀ k, (lay4 s k).length = 4
  | 0 => by rw [lay4]; rfl
  | k + 1 => by rw [lay4, List.length_set, lay4_len s k]
theorem lay4_4 (s : Int) : lay4 s 4 = [s % 18446744073709551616, s / 18446744073709551616 % 18446744073709551616, s / 340282366920938463463374607431768211456 % 18446744073709551616, s / 6277101735386680763835789423207666416102355444464034512896 % 18446744073709551616] := by
  have h : lay4 s 4 = [s / 18446744073709551616 ^ 0 % 18446744073709551616, s / 18446744073709551616 ^ 1 % 18446744073709551616, s / 18446744073709551616 ^ 2 % 18446744073709551616, s / 18446744073709551616 ^ 3 % 18446744073709551616] := by simp only [lay4, List.set]
  rw [h, Int.pow_zero, Int.ediv_one]; rfl
theorem low4_val (a b c d : Int) : low4 [a, b, c, d] 4 = val4 a b c d := by
  rw [val4, low4_s, low4_s, low4_s, low4_s, low4]
  simp only [List.getD_cons_zero, List.getD_cons_succ]
  rw [show (18446744073709551616 : Int) ^ 3 = 6277101735386680763835789423207666416102355444464034512896 from rfl, show (18446744073709551616 : Int) ^ 2 = 340282366920938463463374607431768211456 from rfl]
  omega
theorem getD4 {a b c d : Int} (ha : 0 ≤ a ∧ a < 18446744073709551616) (hb : 0 ≤ b ∧ b < 18446744073709551616) (hc : 0 ≤ c ∧ c < 18446744073709551616) (hd : 0 ≤ d ∧ d < 18446744073709551616) : ∀ i, 0 ≤ [a, b, c, d].getD i 0 ∧ [a, b, c, d].getD i 0 < 18446744073709551616
  | 0 => ha
  | 1 => hb
  | 2 => hc
  | 3 => hd
  | i + 4 => by simp
set_option maxHeartbeats 1000000 in
theorem add01_ok : SpecOK Try.prog 45 add01S := by
  refine q_of mixed SpecsOK.nil Try.func45 rfl rfl fun args blks K h => ?_
  split at h
  · rename_i a0 a1 a2 a3 b0 b1 b2 b3
    rw [ob_iff] at h
    obtain ⟨hb, hg⟩ := h
    simp only [Bool.and_eq_true, okW_iff] at hb
    obtain ⟨⟨⟨⟨⟨⟨⟨ha0, ha1⟩, ha2⟩, ha3⟩, hb0⟩, hb1⟩, hb2⟩, hb3⟩ := hb
    refine ⟨_, rfl, hg, rfl, (fun _ st => .inv 4 fun k => { st with env := (8, inat k) :: (7, .v (.int .u64 (cAdd [a0, a1, a2, a3] [b0, b1, b2, b3] k))) :: keep st.env [2, 3, 4, 5, 6], tbl := st.tbl.set 3 (.ints true .u64 (lay4 (add4 a0 a1 a2 a3 b0 b1 b2 b3) k)) }), ?_⟩
    rw [add01_vf]
    have gx := getD4 ha0 ha1 ha2 ha3
    have gy := getD4 hb0 hb1 hb2 hb3
    have hS : add4 a0 a1 a2 a3 b0 b1 b2 b3 = low4 [a0, a1, a2, a3] 4 + low4 [b0, b1, b2, b3] 4 := by rw [add4, low4_val, low4_val]
    have hw := add_word _ _ _ hS
    have hc := cAdd_b gx gy
    have hcs := cAdd_s [a0, a1, a2, a3] [b0, b1, b2, b3]
    have hc4 : cAdd [a0, a1, a2, a3] [b0, b1, b2, b3] 4 = add4 a0 a1 a2 a3 b0 b1 b2 b3 / 115792089237316195423570985008687907853269984665640564039457584007913129639936 := by
      rw [cAdd, ← hS]; rfl
    have h40 := lay4_4 (add4 a0 a1 a2 a3 b0 b1 b2 b3)
    generalize add4 a0 a1 a2 a3 b0 b1 b2 b3 = S at *
    have hl0 : lay4 S 0 = [0, 0, 0, 0] := by rw [lay4]
    have hc0 : cAdd [a0, a1, a2, a3] [b0, b1, b2, b3] 0 = 0 := by rw [cAdd, low4, low4]; rfl
    (repeat (first | (with_reducible refine ob_true ?_) | refine ob_mk (by first | (with_reducible exact beq_self_eq_true _) | (with_reducible exact nbeq _) | (with_reducible exact nble _) | (with_reducible exact seq_rfl _) | (with_reducible assumption) | (simp only [decide_eq_true_eq, Bool.and_eq_true, beq_iff_eq, Bool.true_and, Bool.and_true, Nat.beq_eq, Nat.ble_eq, true_and, and_true, ge_iff_le, gt_iff_lt, hl0, hc0]; first | done | omega)) ?_))
    intro k hk
    have hkl := lay4_len S k
    have hks : lay4 S (k + 1) = (lay4 S k).set k (S / 18446744073709551616 ^ k % 18446744073709551616) := by rw [lay4]
    have e1 : 0 + (k : Int).toNat * 1 = k := by omega
    have w2 : IntKind.i64.wrap ((k : Int) + 1) = ((k + 1 : Nat) : Int) := by rw [wrap_i64 _ (by omega) (by omega)]; omega
    rw [e1, w2]
    refine bc_mk (fun hlt => ?_) (fun hge => ?_)
    · have hlt := of_decide_eq_true hlt
      have hk4 : k < 4 := by omega
      have g1 := gx k
      have g2 := gy k
      have hw := hw k hk4
      have c1 := hc k
      have c2 := hcs k
      clear gx gy hc hcs h40 hl0 hc0 hc4 ha0 ha1 ha2 ha3 hb0 hb1 hb2 hb3 hS
      generalize cAdd [a0, a1, a2, a3] [b0, b1, b2, b3] (k + 1) = c' at *
      generalize cAdd [a0, a1, a2, a3] [b0, b1, b2, b3] k = c at *
      have hset : ∀ z : Int, ((lay4 S k).set k z).getD k 0 = z := fun z => by rw [List.getD_eq_getElem?_getD, List.getElem?_set_self (by omega)]; rfl
      rw [hset]
      simp only [wrap_u64]
      generalize hu : [a0, a1, a2, a3].getD k 0 = u at *
      generalize hv : [b0, b1, b2, b3].getD k 0 = v at *
      have hw2 : ((u + v) % 18446744073709551616 + c) % 18446744073709551616 = S / 18446744073709551616 ^ k % 18446744073709551616 := by rw [hw]; omega
      rw [hw2, hks]
      clear hks hset e1 w2
      (repeat (first | (with_reducible refine ob_true ?_) | refine ob_mk (by first | (with_reducible exact beq_self_eq_true _) | (with_reducible exact nbeq _) | (with_reducible exact nble _) | (with_reducible exact seq_rfl _) | (with_reducible assumption) | (simp only [decide_eq_true_eq, Bool.and_eq_true, beq_iff_eq, Bool.true_and, Bool.and_true, Nat.beq_eq, Nat.ble_eq, true_and, and_true, ge_iff_le, gt_iff_lt, hkl, List.length_set]; first | done | omega)) ?_))
      refine bc_mk (fun h1 => ?_) (fun h1 => ?_)
      · have h1 := of_decide_eq_true h1
        have hc' : c' = 1 := by omega
        rw [hc']
        clear hw hw2 c2
        (repeat (first | (with_reducible refine ob_true ?_) | refine ob_mk (by first | (with_reducible exact beq_self_eq_true _) | (with_reducible exact nbeq _) | (with_reducible exact nble _) | (with_reducible exact seq_rfl _) | (with_reducible assumption) | (simp only [decide_eq_true_eq, Bool.and_eq_true, beq_iff_eq, Bool.true_and, Bool.and_true, Nat.beq_eq, Nat.ble_eq, true_and, and_true, ge_iff_le, gt_iff_lt, hkl, List.length_set]; first | done | omega)) ?_))
        refine bc_mk (fun _ => ?_) (fun _ => ?_)
        · refine ⟨hk4, ?_⟩
          (repeat (first | (with_reducible refine ob_true ?_) | refine ob_mk (by first | (with_reducible exact beq_self_eq_true _) | (with_reducible exact nbeq _) | (with_reducible exact nble _) | (with_reducible exact seq_rfl _) | (with_reducible assumption) | (simp only [decide_eq_true_eq, Bool.and_eq_true, beq_iff_eq, Bool.true_and, Bool.and_true, Nat.beq_eq, Nat.ble_eq, true_and, and_true, ge_iff_le, gt_iff_lt]; first | done | omega)) ?_))
          trivial
        · refine ⟨hk4, ?_⟩
          (repeat (first | (with_reducible refine ob_true ?_) | refine ob_mk (by first | (with_reducible exact beq_self_eq_true _) | (with_reducible exact nbeq _) | (with_reducible exact nble _) | (with_reducible exact seq_rfl _) | (with_reducible assumption) | (simp only [decide_eq_true_eq, Bool.and_eq_true, beq_iff_eq, Bool.true_and, Bool.and_true, Nat.beq_eq, Nat.ble_eq, true_and, and_true, ge_iff_le, gt_iff_lt]; first | done | omega)) ?_))
          trivial
      · have h1 := of_decide_eq_false h1
        have hh : (S / 18446744073709551616 ^ k % 18446744073709551616 < (u + v) % 18446744073709551616 → c' = 1) ∧ (¬ S / 18446744073709551616 ^ k % 18446744073709551616 < (u + v) % 18446744073709551616 → c' = 0) := by rw [← hw2]; omega
        clear hw hw2 c2
        (repeat (first | (with_reducible refine ob_true ?_) | refine ob_mk (by first | (with_reducible exact beq_self_eq_true _) | (with_reducible exact nbeq _) | (with_reducible exact nble _) | (with_reducible exact seq_rfl _) | (with_reducible assumption) | (simp only [decide_eq_true_eq, Bool.and_eq_true, beq_iff_eq, Bool.true_and, Bool.and_true, Nat.beq_eq, Nat.ble_eq, true_and, and_true, ge_iff_le, gt_iff_lt, hkl, List.length_set]; first | done | omega)) ?_))
        refine bc_mk (fun h2 => ?_) (fun h2 => ?_)
        · rw [hh.1 (of_decide_eq_true h2)]
          refine ⟨hk4, ?_⟩
          (repeat (first | (with_reducible refine ob_true ?_) | refine ob_mk (by first | (with_reducible exact beq_self_eq_true _) | (with_reducible exact nbeq _) | (with_reducible exact nble _) | (with_reducible exact seq_rfl _) | (with_reducible assumption) | (simp only [decide_eq_true_eq, Bool.and_eq_true, beq_iff_eq, Bool.true_and, Bool.and_true, Nat.beq_eq, Nat.ble_eq, true_and, and_true, ge_iff_le, gt_iff_lt]; first | done | omega)) ?_))
          trivial
        · rw [hh.2 (of_decide_eq_false h2)]
          refine ⟨hk4, ?_⟩
          (repeat (first | (with_reducible refine ob_true ?_) | refine ob_mk (by first | (with_reducible exact beq_self_eq_true _) | (with_reducible exact nbeq _) | (with_reducible exact nble _) | (with_reducible exact seq_rfl _) | (with_reducible assumption) | (simp only [decide_eq_true_eq, Bool.and_eq_true, beq_iff_eq, Bool.true_and, Bool.and_true, Nat.beq_eq, Nat.ble_eq, true_and, and_true, ge_iff_le, gt_iff_lt]; first | done | omega)) ?_))
          trivial
    · have hge := of_decide_eq_false hge
      have k4 : k = 4 := by omega
      have hc4' := hc 4
      rw [k4, hc4, h40]
      rw [hc4] at hc4'
      have hd : (S / 115792089237316195423570985008687907853269984665640564039457584007913129639936 == 1) = decide (115792089237316195423570985008687907853269984665640564039457584007913129639936 ≤ S) := by
        rw [Bool.eq_iff_iff, beq_iff_eq, decide_eq_true_eq]; omega
      rw [hd]
      (repeat (first | (with_reducible refine ob_true ?_) | refine ob_mk (by first | (with_reducible exact beq_self_eq_true _) | (with_reducible exact nbeq _) | (with_reducible exact nble _) | (with_reducible exact seq_rfl _) | (with_reducible assumption) | (simp only [decide_eq_true_eq, Bool.and_eq_true, beq_iff_eq, Bool.true_and, Bool.and_true, Nat.beq_eq, Nat.ble_eq, true_and, and_true, ge_iff_le, gt_iff_lt]; first | done | omega)) ?_))
      exact (by repeat' (first | exact trivial | exact rfl | apply And.intro | (intro h; exact h)))
  · exact h.elim
set_option maxHeartbeats 1000000 in
theorem sub01_ok : SpecOK Try.prog 62 sub01S := by
  refine q_of mixed SpecsOK.nil Try.func62 rfl rfl fun args blks K h => ?_
  split at h
  · rename_i a0 a1 a2 a3 b0 b1 b2 b3
    rw [ob_iff] at h
    obtain ⟨hb, hg⟩ := h
    simp only [Bool.and_eq_true, okW_iff] at hb
    obtain ⟨⟨⟨⟨⟨⟨⟨ha0, ha1⟩, ha2⟩, ha3⟩, hb0⟩, hb1⟩, hb2⟩, hb3⟩ := hb
    refine ⟨_, rfl, hg, rfl, (fun _ st => .inv 4 fun k => { st with env := (8, inat k) :: (7, .v (.int .u64 (cSub [a0, a1, a2, a3] [b0, b1, b2, b3] k))) :: keep st.env [2, 3, 4, 5, 6], tbl := st.tbl.set 3 (.ints true .u64 (lay4 (sub4 a0 a1 a2 a3 b0 b1 b2 b3) k)) }), ?_⟩
    rw [sub01_vf]
    have gx := getD4 ha0 ha1 ha2 ha3
    have gy := getD4 hb0 hb1 hb2 hb3
    have hS : sub4 a0 a1 a2 a3 b0 b1 b2 b3 = low4 [a0, a1, a2, a3] 4 - low4 [b0, b1, b2, b3] 4 := by rw [sub4, low4_val, low4_val]
    have hw := sub_word _ _ _ hS
    have hc := cSub_b gx gy
    have hcs := cSub_s [a0, a1, a2, a3] [b0, b1, b2, b3]
    have hc4 : cSub [a0, a1, a2, a3] [b0, b1, b2, b3] 4 = -(sub4 a0 a1 a2 a3 b0 b1 b2 b3 / 115792089237316195423570985008687907853269984665640564039457584007913129639936) := by
      rw [cSub, ← hS]; rfl
    have h40 := lay4_4 (sub4 a0 a1 a2 a3 b0 b1 b2 b3)
    generalize sub4 a0 a1 a2 a3 b0 b1 b2 b3 = S at *
    have hl0 : lay4 S 0 = [0, 0, 0, 0] := by rw [lay4]
    have hc0 : cSub [a0, a1, a2, a3] [b0, b1, b2, b3] 0 = 0 := by rw [cSub, low4, low4]; rfl
    (repeat (first | (with_reducible refine ob_true ?_) | refine ob_mk (by first | (with_reducible exact beq_self_eq_true _) | (with_reducible exact nbeq _) | (with_reducible exact nble _) | (with_reducible exact seq_rfl _) | (with_reducible assumption) | (simp only [decide_eq_true_eq, Bool.and_eq_true, beq_iff_eq, Bool.true_and, Bool.and_true, Nat.beq_eq, Nat.ble_eq, true_and, and_true, ge_iff_le, gt_iff_lt, hl0, hc0]; first | done | omega)) ?_))
    intro k hk
    have hkl := lay4_len S k
    have hks : lay4 S (k + 1) = (lay4 S k).set k (S / 18446744073709551616 ^ k % 18446744073709551616) := by rw [lay4]
    have e1 : 0 + (k : Int).toNat * 1 = k := by omega
    have w2 : IntKind.i64.wrap ((k : Int) + 1) = ((k + 1 : Nat) : Int) := by rw [wrap_i64 _ (by omega) (by omega)]; omega
    rw [e1, w2]
    refine bc_mk (fun hlt => ?_) (fun hge => ?_)
    · have hlt := of_decide_eq_true hlt
      have hk4 : k < 4 := by omega
      have g1 := gx k
      have g2 := gy k
      have hw := hw k hk4
      have c1 := hc k
      have c2 := hcs k
      clear gx gy hc hcs h40 hl0 hc0 hc4 ha0 ha1 ha2 ha3 hb0 hb1 hb2 hb3 hS
      generalize cSub [a0, a1, a2, a3] [b0, b1, b2, b3] (k + 1) = c' at *
      generalize cSub [a0, a1, a2, a3] [b0, b1, b2, b3] k = c at *
      simp only [wrap_u64]
      generalize hu : [a0, a1, a2, a3].getD k 0 = u at *
      generalize hv : [b0, b1, b2, b3].getD k 0 = v at *
      have hw2 : ((u - v) % 18446744073709551616 - c) % 18446744073709551616 = S / 18446744073709551616 ^ k % 18446744073709551616 := by rw [hw]; omega
      rw [hw2, hks]
      clear hks e1 w2 hw hw2
      (repeat (first | (with_reducible refine ob_true ?_) | refine ob_mk (by first | (with_reducible exact beq_self_eq_true _) | (with_reducible exact nbeq _) | (with_reducible exact nble _) | (with_reducible exact seq_rfl _) | (with_reducible assumption) | (simp only [decide_eq_true_eq, Bool.and_eq_true, beq_iff_eq, Bool.true_and, Bool.and_true, Nat.beq_eq, Nat.ble_eq, true_and, and_true, ge_iff_le, gt_iff_lt, hkl, List.length_set]; first | done | omega)) ?_))
      refine bc_mk (fun h1 => ?_) (fun h1 => ?_)
      · have h1 := of_decide_eq_true h1
        have hc' : c' = 1 := by omega
        rw [hc']
        clear c2
        (repeat (first | (with_reducible refine ob_true ?_) | refine ob_mk (by first | (with_reducible exact beq_self_eq_true _) | (with_reducible exact nbeq _) | (with_reducible exact nble _) | (with_reducible exact seq_rfl _) | (with_reducible assumption) | (simp only [decide_eq_true_eq, Bool.and_eq_true, beq_iff_eq, Bool.true_and, Bool.and_true, Nat.beq_eq, Nat.ble_eq, true_and, and_true, ge_iff_le, gt_iff_lt, hkl, List.length_set]; first | done | omega)) ?_))
        refine ⟨hk4, ?_⟩
        (repeat (first | (with_reducible refine ob_true ?_) | refine ob_mk (by first | (with_reducible exact beq_self_eq_true _) | (with_reducible exact nbeq _) | (with_reducible exact nble _) | (with_reducible exact seq_rfl _) | (with_reducible assumption) | (simp only [decide_eq_true_eq, Bool.and_eq_true, beq_iff_eq, Bool.true_and, Bool.and_true, Nat.beq_eq, Nat.ble_eq, true_and, and_true, ge_iff_le, gt_iff_lt]; first | done | omega)) ?_))
        trivial
      · have h1 := of_decide_eq_false h1
        have hh : ((u - v) % 18446744073709551616 < c → c' = 1) ∧ (¬ (u - v) % 18446744073709551616 < c → c' = 0) := by omega
        clear c2
        refine bc_mk (fun h2 => ?_) (fun h2 => ?_)
        · rw [hh.1 (of_decide_eq_true h2)]
          (repeat (first | (with_reducible refine ob_true ?_) | refine ob_mk (by first | (with_reducible exact beq_self_eq_true _) | (with_reducible exact nbeq _) | (with_reducible exact nble _) | (with_reducible exact seq_rfl _) | (with_reducible assumption) | (simp only [decide_eq_true_eq, Bool.and_eq_true, beq_iff_eq, Bool.true_and, Bool.and_true, Nat.beq_eq, Nat.ble_eq, true_and, and_true, ge_iff_le, gt_iff_lt, hkl, List.length_set]; first | done | omega)) ?_))
          refine ⟨hk4, ?_⟩
          (repeat (first | (with_reducible refine ob_true ?_) | refine ob_mk (by first | (with_reducible exact beq_self_eq_true _) | (with_reducible exact nbeq _) | (with_reducible exact nble _) | (with_reducible exact seq_rfl _) | (with_reducible assumption) | (simp only [decide_eq_true_eq, Bool.and_eq_true, beq_iff_eq, Bool.true_and, Bool.and_true, Nat.beq_eq, Nat.ble_eq, true_and, and_true, ge_iff_le, gt_iff_lt]; first | done | omega)) ?_))
          trivial
        · rw [hh.2 (of_decide_eq_false h2)]
          (repeat (first | (with_reducible refine ob_true ?_) | refine ob_mk (by first | (with_reducible exact beq_self_eq_true _) | (with_reducible exact nbeq _) | (with_reducible exact nble _) | (with_reducible exact seq_rfl _) | (with_reducible assumption) | (simp only [decide_eq_true_eq, Bool.and_eq_true, beq_iff_eq, Bool.true_and, Bool.and_true, Nat.beq_eq, Nat.ble_eq, true_and, and_true, ge_iff_le, gt_iff_lt, hkl, List.length_set]; first | done | omega)) ?_))
          refine ⟨hk4, ?_⟩
          (repeat (first | (with_reducible refine ob_true ?_) | refine ob_mk (by first | (with_reducible exact beq_self_eq_true _) | (with_reducible exact nbeq _) | (with_reducible exact nble _) | (with_reducible exact seq_rfl _) | (with_reducible assumption) | (simp only [decide_eq_true_eq, Bool.and_eq_true, beq_iff_eq, Bool.true_and, Bool.and_true, Nat.beq_eq, Nat.ble_eq, true_and, and_true, ge_iff_le, gt_iff_lt]; first | done | omega)) ?_))
          trivial
    · have hge := of_decide_eq_false hge
      have k4 : k = 4 := by omega
      have hc4' := hc 4
      rw [k4, hc4, h40]
      rw [hc4] at hc4'
      have hd : (-(S / 115792089237316195423570985008687907853269984665640564039457584007913129639936) == 1) = decide (S < 0) := by
        rw [Bool.eq_iff_iff, beq_iff_eq, decide_eq_true_eq]; omega
      rw [hd]
      (repeat (first | (with_reducible refine ob_true ?_) | refine ob_mk (by first | (with_reducible exact beq_self_eq_true _) | (with_reducible exact nbeq _) | (with_reducible exact nble _) | (with_reducible exact seq_rfl _) | (with_reducible assumption) | (simp only [decide_eq_true_eq, Bool.and_eq_true, beq_iff_eq, Bool.true_and, Bool.and_true, Nat.beq_eq, Nat.ble_eq, true_and, and_true, ge_iff_le, gt_iff_lt]; first | done | omega)) ?_))
      exact (by repeat' (first | exact trivial | exact rfl | apply And.intro | (intro h; exact h)))
  · exact h.elim
theorem cmp01_ok : SpecOK Try.prog 60 cmp01S := by
  refine q_of mixed SpecsOK.nil Try.func60 rfl rfl fun args blks K h => ?_
  split at h
  · rename_i a0 a1 a2 a3 b0 b1 b2 b3
    rw [ob_iff] at h
    obtain ⟨hb, hg⟩ := h
    simp only [Bool.and_eq_true, okW_iff] at hb
    obtain ⟨⟨⟨⟨⟨⟨⟨ha0, ha1⟩, ha2⟩, ha3⟩, hb0⟩, hb1⟩, hb2⟩, hb3⟩ := hb
    refine ⟨_, rfl, hg, rfl, (fun _ _ => .unroll 6), ?_⟩
    rw [cmp01_vf]
    have hlt : val4 a0 a1 a2 a3 < val4 b0 b1 b2 b3 → cmpF (val4 a0 a1 a2 a3) (val4 b0 b1 b2 b3) = -1 := fun h => by rw [cmpF, if_pos h]
    have hgt : val4 b0 b1 b2 b3 < val4 a0 a1 a2 a3 → cmpF (val4 a0 a1 a2 a3) (val4 b0 b1 b2 b3) = 1 := fun h => by rw [cmpF, if_neg (by omega), if_pos h]
    have heq : val4 a0 a1 a2 a3 = val4 b0 b1 b2 b3 → cmpF (val4 a0 a1 a2 a3) (val4 b0 b1 b2 b3) = 0 := fun h => by rw [cmpF, if_neg (by omega), if_neg (by omega)]
    generalize cmpF (val4 a0 a1 a2 a3) (val4 b0 b1 b2 b3) = r at *
    rw [val4, val4] at hlt hgt heq
    (repeat (first | (with_reducible refine ob_true ?_) | refine ob_mk (by first | (with_reducible exact beq_self_eq_true _) | (with_reducible exact nbeq _) | (with_reducible exact nble _) | (with_reducible exact seq_rfl _) | (with_reducible assumption) | (simp only [decide_eq_true_eq, Bool.and_eq_true, beq_iff_eq, Bool.true_and, Bool.and_true, Nat.beq_eq, Nat.ble_eq, true_and, and_true, ge_iff_le, gt_iff_lt]; first | done | omega)) ?_))
    refine bc_mk (fun c => ?_) (fun c3 => ?_)
    · have c := of_decide_eq_true c
      rw [hlt (by omega)]; exact (by repeat' (first | exact trivial | exact rfl | apply And.intro | (intro h; exact h)))
    have c3 := of_decide_eq_false c3
    (repeat (first | (with_reducible refine ob_true ?_) | refine ob_mk (by first | (with_reducible exact beq_self_eq_true _) | (with_reducible exact nbeq _) | (with_reducible exact nble _) | (with_reducible exact seq_rfl _) | (with_reducible assumption) | (simp only [decide_eq_true_eq, Bool.and_eq_true, beq_iff_eq, Bool.true_and, Bool.and_true, Nat.beq_eq, Nat.ble_eq, true_and, and_true, ge_iff_le, gt_iff_lt]; first | done | omega)) ?_))
    refine bc_mk (fun c => ?_) (fun d3 => ?_)
    · have c := of_decide_eq_true c
      rw [hgt (by omega)]; exact (by repeat' (first | exact trivial | exact rfl | apply And.intro | (intro h; exact h)))
    have d3 := of_decide_eq_false d3
    (repeat (first | (with_reducible refine ob_true ?_) | refine ob_mk (by first | (with_reducible exact beq_self_eq_true _) | (with_reducible exact nbeq _) | (with_reducible exact nble _) | (with_reducible exact seq_rfl _) | (with_reducible assumption) | (simp only [decide_eq_true_eq, Bool.and_eq_true, beq_iff_eq, Bool.true_and, Bool.and_true, Nat.beq_eq, Nat.ble_eq, true_and, and_true, ge_iff_le, gt_iff_lt]; first | done | omega)) ?_))
    refine bc_mk (fun c => ?_) (fun c2 => ?_)
    · have c := of_decide_eq_true c
      rw [hlt (by omega)]; exact (by repeat' (first | exact trivial | exact rfl | apply And.intro | (intro h; exact h)))
    have c2 := of_decide_eq_false c2
    (repeat (first | (with_reducible refine ob_true ?_) | refine ob_mk (by first | (with_reducible exact beq_self_eq_true _) | (with_reducible exact nbeq _) | (with_reducible exact nble _) | (with_reducible exact seq_rfl _) | (with_reducible assumption) | (simp only [decide_eq_true_eq, Bool.and_eq_true, beq_iff_eq, Bool.true_and, Bool.and_true, Nat.beq_eq, Nat.ble_eq, true_and, and_true, ge_iff_le, gt_iff_lt]; first | done | omega)) ?_))
    refine bc_mk (fun c => ?_) (fun d2 => ?_)
    · have c := of_decide_eq_true c
      rw [hgt (by omega)]; exact (by repeat' (first | exact trivial | exact rfl | apply And.intro | (intro h; exact h)))
    have d2 := of_decide_eq_false d2
    (repeat (first | (with_reducible refine ob_true ?_) | refine ob_mk (by first | (with_reducible exact beq_self_eq_true _) | (with_reducible exact nbeq _) | (with_reducible exact nble _) | (with_reducible exact seq_rfl _) | (with_reducible assumption) | (simp only [decide_eq_true_eq, Bool.and_eq_true, beq_iff_eq, Bool.true_and, Bool.and_true, Nat.beq_eq, Nat.ble_eq, true_and, and_true, ge_iff_le, gt_iff_lt]; first | done | omega)) ?_))
    refine bc_mk (fun c => ?_) (fun c1 => ?_)
    · have c := of_decide_eq_true c
      rw [hlt (by omega)]; exact (by repeat' (first | exact trivial | exact rfl | apply And.intro | (intro h; exact h)))
    have c1 := of_decide_eq_false c1
    (repeat (first | (with_reducible refine ob_true ?_) | refine ob_mk (by first | (with_reducible exact beq_self_eq_true _) | (with_reducible exact nbeq _) | (with_reducible exact nble _) | (with_reducible exact seq_rfl _) | (with_reducible assumption) | (simp only [decide_eq_true_eq, Bool.and_eq_true, beq_iff_eq, Bool.true_and, Bool.and_true, Nat.beq_eq, Nat.ble_eq, true_and, and_true, ge_iff_le, gt_iff_lt]; first | done | omega)) ?_))
    refine bc_mk (fun c => ?_) (fun d1 => ?_)
    · have c := of_decide_eq_true c
      rw [hgt (by omega)]; exact (by repeat' (first | exact trivial | exact rfl | apply And.intro | (intro h; exact h)))
    have d1 := of_decide_eq_false d1
    (repeat (first | (with_reducible refine ob_true ?_) | refine ob_mk (by first | (with_reducible exact beq_self_eq_true _) | (with_reducible exact nbeq _) | (with_reducible exact nble _) | (with_reducible exact seq_rfl _) | (with_reducible assumption) | (simp only [decide_eq_true_eq, Bool.and_eq_true, beq_iff_eq, Bool.true_and, Bool.and_true, Nat.beq_eq, Nat.ble_eq, true_and, and_true, ge_iff_le, gt_iff_lt]; first | done | omega)) ?_))
    refine bc_mk (fun c => ?_) (fun c0 => ?_)
    · have c := of_decide_eq_true c
      rw [hlt (by omega)]; exact (by repeat' (first | exact trivial | exact rfl | apply And.intro | (intro h; exact h)))
    have c0 := of_decide_eq_false c0
    (repeat (first | (with_reducible refine ob_true ?_) | refine ob_mk (by first | (with_reducible exact beq_self_eq_true _) | (with_reducible exact nbeq _) | (with_reducible exact nble _) | (with_reducible exact seq_rfl _) | (with_reducible assumption) | (simp only [decide_eq_true_eq, Bool.and_eq_true, beq_iff_eq, Bool.true_and, Bool.and_true, Nat.beq_eq, Nat.ble_eq, true_and, and_true, ge_iff_le, gt_iff_lt]; first | done | omega)) ?_))
    refine bc_mk (fun c => ?_) (fun d0 => ?_)
    · have c := of_decide_eq_true c
      rw [hgt (by omega)]; exact (by repeat' (first | exact trivial | exact rfl | apply And.intro | (intro h; exact h)))
    have d0 := of_decide_eq_false d0
    rw [heq (by omega)]; exact (by repeat' (first | exact trivial | exact rfl | apply And.intro | (intro h; exact h)))
  · exact h.elim
theorem word_at (l : List Int) (hl : ∀ i, 0 ≤ l.getD i 0 ∧ l.getD i 0 < 18446744073709551616) (j : Nat) (hj : j < 4) : ∃ R : Int, low4 l 4 / 18446744073709551616 ^ j = l.getD j 0 + R * 18446744073709551616 := by
  have hp : (18446744073709551616 : Int) ^ j ≠ 0 := Int.ne_of_gt (Int.pow_pos (by decide))
  obtain ⟨R, h1⟩ := low4_more l (j + 1) (3 - j)
  rw [show j + 1 + (3 - j) = 4 by omega] at h1
  have hb := low4_b hl j
  refine ⟨R, ?_⟩
  have e : low4 l 4 = low4 l j + (l.getD j 0 + R * 18446744073709551616) * 18446744073709551616 ^ j := by
    rw [h1, low4_s, Int.pow_succ]
    generalize (18446744073709551616 : Int) ^ j = p
    grind
  rw [e, Int.add_mul_ediv_right _ _ hp, Int.ediv_eq_zero_of_lt hb.1 hb.2]
  omega
theorem bit_word (a R : Int) (r : Nat) (hr : r < 64) : (a + R * 18446744073709551616) / 2 ^ r % 2 = a / 2 ^ r % 2 := by
  have hp : (2 : Int) ^ r ≠ 0 := Int.ne_of_gt (Int.pow_pos (by decide))
  have e : R * 18446744073709551616 = (R * 2 ^ (63 - r) * 2) * 2 ^ r := by
    rw [show (18446744073709551616 : Int) = 2 ^ 64 from rfl, show 64 = (63 - r) + 1 + r by omega, Int.pow_add, Int.pow_succ]
    simp only [Int.mul_assoc]
  rw [e, Int.add_mul_ediv_right _ _ hp]
  omega
theorem iand1 (x : Int) (h0 : 0 ≤ x) (h1 : x < 18446744073709551616) : iand .u64 x 1 = x % 2 := iand_mask .u64 x 1 2 (by decide) (by decide) rfl h0 h1
theorem bit01_ok : SpecOK Try.prog 59 bit01S := by
  refine q_of mixed SpecsOK.nil Try.func59 rfl rfl fun args blks K h => ?_
  split at h
  · rename_i a0 a1 a2 a3 i
    rw [ob_iff] at h
    obtain ⟨hb, hg⟩ := h
    simp only [Bool.and_eq_true, okW_iff, decide_eq_true_eq] at hb
    obtain ⟨⟨⟨⟨⟨ha0, ha1⟩, ha2⟩, ha3⟩, hi0⟩, hi1⟩ := hb
    refine ⟨_, rfl, hg, rfl, noI, ?_⟩
    rw [bit01_vf]
    obtain ⟨n, rfl⟩ := Int.eq_ofNat_of_zero_le hi0
    have gx := getD4 ha0 ha1 ha2 ha3
    have d1 : IntKind.i64.wrap ((n : Int).tdiv 64) = ((n / 64 : Nat) : Int) := by
      rw [show (n : Int).tdiv 64 = ((n / 64 : Nat) : Int) from rfl, wrap_i64 _ (by omega) (by omega)]
    have d2 : IntKind.u64.wrap ((n : Int).tmod 64) = ((n % 64 : Nat) : Int) := by
      rw [show (n : Int).tmod 64 = ((n % 64 : Nat) : Int) from rfl, wrap_u64' _ (by omega) (by omega)]
    rw [d1, d2, Int.toNat_natCast]
    have e1 : 0 + n / 64 * 1 = n / 64 := by omega
    rw [e1]
    have hw := gx (n / 64)
    have hr : n % 64 < 64 := by omega
    obtain ⟨R, hR⟩ := word_at _ gx (n / 64) (by omega)
    have hbit : (iand IntKind.u64 (ishr IntKind.u64 ([a0, a1, a2, a3].getD (n / 64) 0) ((n % 64 : Nat) : Int)) 1 == 1) = bit4 (val4 a0 a1 a2 a3) (n : Int) := by
      have hp : (0 : Int) < 2 ^ (n % 64) := Int.pow_pos (by decide)
      rw [ishr_div .u64 _ _ (by simp [IntKind.bits]; omega), bit4, ← low4_val, Int.toNat_natCast]
      have e2 : low4 [a0, a1, a2, a3] 4 / 2 ^ n % 2 = [a0, a1, a2, a3].getD (n / 64) 0 / 2 ^ (n % 64) % 2 := by
        have : (2 : Int) ^ n = 18446744073709551616 ^ (n / 64) * 2 ^ (n % 64) := by
          rw [show (18446744073709551616 : Int) = 2 ^ 64 from rfl, ← Int.pow_mul, ← Int.pow_add]
          exact congrArg _ (by omega)
        rw [this, ← Int.ediv_ediv_of_nonneg (Int.le_of_lt (Int.pow_pos (by decide))), hR, bit_word _ _ _ hr]
      rw [e2]
      generalize [a0, a1, a2, a3].getD (n / 64) 0 = a at *
      have h1 : 0 ≤ a / 2 ^ (n % 64) := Int.ediv_nonneg hw.1 (by omega)
      have h2 : a / 2 ^ (n % 64) ≤ a := Int.ediv_le_self _ hw.1
      rw [iand1 _ h1 (by omega), Bool.eq_iff_iff, beq_iff_eq, decide_eq_true_eq]
    refine bc_mk (fun _ => bc_mk (fun _ => ?_) (fun h => ?_)) (fun h => ?_)
    · rw [cond_true, hbit]
      clear hbit d1 d2 hR
      (repeat (first | (with_reducible refine ob_true ?_) | refine ob_mk (by first | (with_reducible exact beq_self_eq_true _) | (with_reducible exact nbeq _) | (with_reducible exact nble _) | (with_reducible exact seq_rfl _) | (with_reducible assumption) | (simp only [decide_eq_true_eq, Bool.and_eq_true, beq_iff_eq, Bool.true_and, Bool.and_true, Nat.beq_eq, Nat.ble_eq, true_and, and_true, ge_iff_le, gt_iff_lt]; first | done | omega)) ?_))
      first | done | exact (by repeat' (first | exact trivial | exact rfl | apply And.intro | (intro h; exact h)))
    · exfalso; (simp at h) <;> omega
    · exfalso; (simp at h) <;> omega
  · exact h.elim

end Go.Proofs.Ytinmllbkdjceaaa.Sx
