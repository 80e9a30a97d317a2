/- Poly1305's reference: bytes to a number. No condition. -/
import Derived.Test.YtinmllbkdjceaaaSx11
import Derived.Test.YtinmllbkdjceaaaProg
import Derived.Test.YtinmllbkdjceaaaBits
import Derived.Test.YtinmllbkdjceaaaWords
import Derived.Test.YtinmllbkdjceaaaPoly1
import Derived.Test.YtinmllbkdjceaaaPoly2
import Derived.Test.YtinmllbkdjceaaaPoly3
import Derived.Test.YtinmllbkdjceaaaPoly4
import Derived.Test.YtinmllbkdjceaaaPoly5
import Derived.Test.YtinmllbkdjceaaaPoly6
import Derived.Test.YtinmllbkdjceaaaRef1
import Derived.Test.YtinmllbkdjceaaaRef10
namespace Go.Proofs.Ytinmllbkdjceaaa.Sx
open Go Go.Proofs
set_option maxRecDepth 100000
set_option linter.unusedSimpArgs false
set_option linter.unusedVariables false

def numF (s : ByteArray) (k : Nat) : Int := numK (bytesL s) 0 k
def numberS : Spec := .q fun args blks K => match args, blks with
  | [.v (.string s)], [] => ob (decide (s.size ≤ 32)) (K (.ia .u64 [numF s s.size % 18446744073709551616, numF s s.size / 18446744073709551616 % 18446744073709551616, numF s s.size / 340282366920938463463374607431768211456 % 18446744073709551616, numF s s.size / 6277101735386680763835789423207666416102355444464034512896 % 18446744073709551616]))
  | _, _ => False
theorem rnumber_vf (s : ByteArray) (K : SV → List Blk → List Nat → Prop) : vf Try.prog [] (fun _ st => .inv s.size fun k => { st with env := (4, inat k) :: keep st.env [0, 2, 3], tbl := st.tbl.set 1 (.ints true .u64 [numF s k % 18446744073709551616, numF s k / 18446744073709551616 % 18446744073709551616, numF s k / 340282366920938463463374607431768211456 % 18446744073709551616, numF s k / 6277101735386680763835789423207666416102355444464034512896 % 18446744073709551616]) }) Try.f42 [.v (.string s)] [] K =
  (ob true (ob (seq s s) (ob true (ob true (ob true (ob true (ob true (ob true (ob true (ob true (ob true (ob true (ob ([(0 : Int), (0 : Int), (0 : Int), (0 : Int)] == [numF s (0 : Nat) % (18446744073709551616 : Int), numF s (0 : Nat) / (18446744073709551616 : Int) % (18446744073709551616 : Int), numF s (0 : Nat) / (340282366920938463463374607431768211456 : Int) % (18446744073709551616 : Int), numF s (0 : Nat) / (6277101735386680763835789423207666416102355444464034512896 : Int) % (18446744073709551616 : Int)]) (∀ (k : Nat), k ≤ s.size → bc (decide ((↑k : Int) < (↑s.size : Int))) (ob true (ob true (ob (decide ((0 : Int) ≤ IntKind.i64.wrap ((↑k : Int).tdiv (8 : Int))) && decide (IntKind.i64.wrap ((↑k : Int).tdiv (8 : Int)) < (4 : Int))) (ob (decide ((0 : Nat) + (IntKind.i64.wrap ((↑k : Int).tdiv (8 : Int))).toNat * (1 : Nat) < (4 : Nat))) (ob (true && decide ((↑k : Int) < (↑s.size : Int))) (ob true (ob (decide ((0 : Int) ≤ IntKind.u64.wrap (IntKind.i64.wrap ((8 : Int) * (↑k : Int).tmod (8 : Int))))) (ob (decide ((0 : Int) ≤ IntKind.i64.wrap ((↑k : Int).tdiv (8 : Int))) && decide (IntKind.i64.wrap ((↑k : Int).tdiv (8 : Int)) < (4 : Int))) (ob (decide ((0 : Nat) + (IntKind.i64.wrap ((↑k : Int).tdiv (8 : Int))).toNat * (1 : Nat) < (4 : Nat))) (k < s.size ∧ ob (IntKind.i64.wrap ((↑k : Int) + (1 : Int)) == (↑(k + (1 : Nat)) : Int)) (ob (seq s s) (ob true (ob true (ob true (ob true (ob true (ob true (ob true (ob true (ob true (ob true (ob ([numF s k % (18446744073709551616 : Int), numF s k / (18446744073709551616 : Int) % (18446744073709551616 : Int), numF s k / (340282366920938463463374607431768211456 : Int) % (18446744073709551616 : Int), numF s k / (6277101735386680763835789423207666416102355444464034512896 : Int) % (18446744073709551616 : Int)].set ((0 : Nat) + (IntKind.i64.wrap ((↑k : Int).tdiv (8 : Int))).toNat * (1 : Nat)) (ior IntKind.u64 ([numF s k % (18446744073709551616 : Int), numF s k / (18446744073709551616 : Int) % (18446744073709551616 : Int), numF s k / (340282366920938463463374607431768211456 : Int) % (18446744073709551616 : Int), numF s k / (6277101735386680763835789423207666416102355444464034512896 : Int) % (18446744073709551616 : Int)].getD ((0 : Nat) + (IntKind.i64.wrap ((↑k : Int).tdiv (8 : Int))).toNat * (1 : Nat)) (0 : Int)) (ishl IntKind.u64 (IntKind.u64.wrap (bt s (↑k : Int))) (IntKind.u64.wrap (IntKind.i64.wrap ((8 : Int) * (↑k : Int).tmod (8 : Int)))))) == [numF s (k + (1 : Nat)) % (18446744073709551616 : Int), numF s (k + (1 : Nat)) / (18446744073709551616 : Int) % (18446744073709551616 : Int), numF s (k + (1 : Nat)) / (340282366920938463463374607431768211456 : Int) % (18446744073709551616 : Int), numF s (k + (1 : Nat)) / (6277101735386680763835789423207666416102355444464034512896 : Int) % (18446744073709551616 : Int)]) True)))))))))))))))))))))) (ob true (ob true (ob true (K (SV.ia IntKind.u64 [numF s k % (18446744073709551616 : Int), numF s k / (18446744073709551616 : Int) % (18446744073709551616 : Int), numF s k / (340282366920938463463374607431768211456 : Int) % (18446744073709551616 : Int), numF s k / (6277101735386680763835789423207666416102355444464034512896 : Int) % (18446744073709551616 : Int)]) [Blk.ints true IntKind.u64 [numF s k % (18446744073709551616 : Int), numF s k / (18446744073709551616 : Int) % (18446744073709551616 : Int), numF s k / (340282366920938463463374607431768211456 : Int) % (18446744073709551616 : Int), numF s k / (6277101735386680763835789423207666416102355444464034512896 : Int) % (18446744073709551616 : Int)], Blk.ints true IntKind.u64 [numF s k % (18446744073709551616 : Int), numF s k / (18446744073709551616 : Int) % (18446744073709551616 : Int), numF s k / (340282366920938463463374607431768211456 : Int) % (18446744073709551616 : Int), numF s k / (6277101735386680763835789423207666416102355444464034512896 : Int) % (18446744073709551616 : Int)]] [])))))))))))))))))) := by kernel_rfl
theorem pow_56 (n : Nat) (h : n ≤ 56) : (2 : Int) ^ n ≤ 72057594037927936 := by
  have : (2 : Int) ^ n ≤ 2 ^ 56 := by exact_mod_cast Nat.pow_le_pow_right (n := 2) (by decide) h
  exact this
theorem ior_byte (w x : Int) (r : Nat) (hr : r < 8) (h0 : 0 ≤ w) (h1 : w < 256 ^ r) (h2 : 0 ≤ x) (h3 : x < 256) : ior .u64 w (ishl .u64 (IntKind.u64.wrap x) ((8 * r : Nat) : Int)) = w + x * 256 ^ r := by
  have hp : (2 : Int) ^ (8 * r) ≤ 2 ^ 56 := by exact_mod_cast Nat.pow_le_pow_right (n := 2) (by decide) (show 8 * r ≤ 56 by omega)
  have hp0 : (0 : Int) < 2 ^ (8 * r) := Int.pow_pos (by decide)
  rw [pow_256] at h1 ⊢
  have hm : x * 2 ^ (8 * r) ≤ 255 * 2 ^ (8 * r) := Int.mul_le_mul_of_nonneg_right (by omega) (by omega)
  have hm0 : 0 ≤ x * 2 ^ (8 * r) := Int.mul_nonneg h2 (by omega)
  have hsh : ishl IntKind.u64 (IntKind.u64.wrap x) ((8 * r : Nat) : Int) = x * 2 ^ (8 * r) := by
    unfold ishl
    rw [Int.toNat_natCast, Nat.min_eq_left (show 8 * r ≤ IntKind.u64.bits from by simp [IntKind.bits]; omega), wrap_u64' x (by omega) (by omega), wrap_u64' _ hm0 (by omega)]
  rw [hsh]
  exact ior_add .u64 w x (8 * r) rfl (by simp [IntKind.bits]; omega) h0 h1 h2 (by show _ < (18446744073709551616 : Int); omega)
/-- One byte more, in the word where it belongs. -/
theorem word_byte (N x q : Int) (j : Nat) (hj : j < 4) (h0 : 0 ≤ N) (h1 : N < 18446744073709551616 ^ j * q) (hq : q ≤ 72057594037927936) (h2 : 0 ≤ x * q) (h3 : x * q ≤ 255 * q) :
    ([N % 18446744073709551616, N / 18446744073709551616 % 18446744073709551616, N / 340282366920938463463374607431768211456 % 18446744073709551616, N / 6277101735386680763835789423207666416102355444464034512896 % 18446744073709551616].getD j 0 < q) ∧ (0 ≤ [N % 18446744073709551616, N / 18446744073709551616 % 18446744073709551616, N / 340282366920938463463374607431768211456 % 18446744073709551616, N / 6277101735386680763835789423207666416102355444464034512896 % 18446744073709551616].getD j 0) ∧
    [N % 18446744073709551616, N / 18446744073709551616 % 18446744073709551616, N / 340282366920938463463374607431768211456 % 18446744073709551616, N / 6277101735386680763835789423207666416102355444464034512896 % 18446744073709551616].set j ([N % 18446744073709551616, N / 18446744073709551616 % 18446744073709551616, N / 340282366920938463463374607431768211456 % 18446744073709551616, N / 6277101735386680763835789423207666416102355444464034512896 % 18446744073709551616].getD j 0 + x * q) =
    [(N + x * q * 18446744073709551616 ^ j) % 18446744073709551616, (N + x * q * 18446744073709551616 ^ j) / 18446744073709551616 % 18446744073709551616, (N + x * q * 18446744073709551616 ^ j) / 340282366920938463463374607431768211456 % 18446744073709551616, (N + x * q * 18446744073709551616 ^ j) / 6277101735386680763835789423207666416102355444464034512896 % 18446744073709551616] := by
  generalize x * q = t at *
  rcases j with _ | _ | _ | _ | j
  · rw [Int.pow_zero] at *
    simp only [List.getD_cons_zero, List.set_cons_zero, List.cons.injEq, and_true]
    refine ⟨by omega, by omega, by omega, by omega, by omega, by omega⟩
  · rw [show (18446744073709551616 : Int) ^ (0 + 1) = 18446744073709551616 from rfl] at *
    simp only [List.getD_cons_succ, List.getD_cons_zero, List.set_cons_succ, List.set_cons_zero, List.cons.injEq, and_true]
    refine ⟨by omega, by omega, by omega, by omega, by omega, by omega⟩
  · rw [show (18446744073709551616 : Int) ^ (0 + 1 + 1) = 340282366920938463463374607431768211456 from rfl] at *
    simp only [List.getD_cons_succ, List.getD_cons_zero, List.set_cons_succ, List.set_cons_zero, List.cons.injEq, and_true]
    refine ⟨by omega, by omega, by omega, by omega, by omega, by omega⟩
  · rw [show (18446744073709551616 : Int) ^ (0 + 1 + 1 + 1) = 6277101735386680763835789423207666416102355444464034512896 from rfl] at *
    simp only [List.getD_cons_succ, List.getD_cons_zero, List.set_cons_succ, List.set_cons_zero, List.cons.injEq, and_true]
    refine ⟨by omega, by omega, by omega, by omega, by omega, by omega⟩
  · omega
theorem numF_s (s : ByteArray) (k : Nat) : numF s (k + 1) = numF s k + (bytesL s).getD k 0 * 256 ^ k := by rw [numF, numF, numK.eq_2, Nat.zero_add]
theorem numF_b (s : ByteArray) (k : Nat) : 0 ≤ numF s k ∧ numF s k < 256 ^ k := by rw [numF]; exact numK_bound (okB_bytes s) 0 k
theorem rnumber_ok : SpecOK Try.prog 42 numberS := by
  refine q_of mixed SpecsOK.nil Try.func42 rfl rfl fun args blks K h => ?_
  split at h
  · rename_i s
    rw [ob_iff] at h
    obtain ⟨hb, hg⟩ := h
    have hb := of_decide_eq_true hb
    refine ⟨_, rfl, hg, rfl, (fun _ st => .inv s.size fun k => { st with env := (4, inat k) :: keep st.env [0, 2, 3], tbl := st.tbl.set 1 (.ints true .u64 [numF s k % 18446744073709551616, numF s k / 18446744073709551616 % 18446744073709551616, numF s k / 340282366920938463463374607431768211456 % 18446744073709551616, numF s k / 6277101735386680763835789423207666416102355444464034512896 % 18446744073709551616]) }), ?_⟩
    rw [rnumber_vf]
    have h0 : numF s 0 = 0 := by rw [numF, numK]
    have hs := numF_s s
    have hB := numF_b s
    have ht := bt_bytesL s
    have hby := okB_get (okB_bytes s)
    have hF : ∀ n, n = s.size → numF s n = numF s s.size := fun n h => by rw [h]
    generalize numF s s.size = Z at *
    rw [h0]
    (repeat (first | (with_reducible refine ob_true ?_) | refine ob_mk (by first | (with_reducible exact beq_self_eq_true _) | (with_reducible exact nbeq _) | (with_reducible exact nble _) | (with_reducible exact seq_rfl _) | (with_reducible assumption) | (simp only [decide_eq_true_eq, Bool.and_eq_true, beq_iff_eq, Bool.true_and, Bool.and_true, Nat.beq_eq, Nat.ble_eq, true_and, and_true, ge_iff_le, gt_iff_lt]; first | done | omega)) ?_))
    intro k hk
    have d1 : IntKind.i64.wrap ((k : Int).tdiv 8) = ((k / 8 : Nat) : Int) := by
      rw [show (k : Int).tdiv 8 = ((k / 8 : Nat) : Int) from rfl, wrap_i64 _ (by omega) (by omega)]
    have d2 : IntKind.u64.wrap (IntKind.i64.wrap ((8 : Int) * (k : Int).tmod 8)) = ((8 * (k % 8) : Nat) : Int) := by
      rw [show (k : Int).tmod 8 = ((k % 8 : Nat) : Int) from rfl, wrap_i64 _ (by omega) (by omega), wrap_u64' _ (by omega) (by omega)]; omega
    have d3 : IntKind.i64.wrap ((k : Int) + 1) = ((k + 1 : Nat) : Int) := by rw [wrap_i64 _ (by omega) (by omega)]; omega
    have e1 : 0 + (((k / 8 : Nat) : Int)).toNat * 1 = k / 8 := by omega
    rw [d1, d2, d3, e1, ht]
    refine bc_mk (fun hlt => ?_) (fun hge => ?_)
    · have hlt := of_decide_eq_true hlt
      have hks : k < s.size := by omega
      have hj : k / 8 < 4 := by omega
      have hr : k % 8 < 8 := by omega
      have hs := hs k
      have hB := hB k
      have hx := hby k
      have hp : (256 : Int) ^ k = 18446744073709551616 ^ (k / 8) * 256 ^ (k % 8) := by
        rw [show (18446744073709551616 : Int) = 256 ^ 8 from rfl, ← Int.pow_mul, ← Int.pow_add]
        exact congrArg _ (by omega)
      have hq0 : (0 : Int) < 256 ^ (k % 8) := Int.pow_pos (by decide)
      have hq : (256 : Int) ^ (k % 8) ≤ 72057594037927936 := by
        rw [pow_256]; exact pow_56 _ (by omega)
      clear hF ht hby h0 d1 d2 d3 e1 hg
      generalize (bytesL s).getD k 0 = x at *
      have hx0 : 0 ≤ x * 256 ^ (k % 8) := Int.mul_nonneg hx.1 (by omega)
      have hx1 : x * 256 ^ (k % 8) ≤ 255 * 256 ^ (k % 8) := Int.mul_le_mul_of_nonneg_right (by omega) (by omega)
      rw [hp] at hs hB
      have hw := word_byte (numF s k) x (256 ^ (k % 8)) (k / 8) hj hB.1 hB.2 hq hx0 hx1
      have hN : numF s (k + 1) = numF s k + x * 256 ^ (k % 8) * 18446744073709551616 ^ (k / 8) := by
        rw [hs, Int.mul_comm ((18446744073709551616 : Int) ^ (k / 8)), Int.mul_assoc]
      rw [ior_byte _ x (k % 8) hr hw.2.1 hw.1 hx.1 hx.2, hw.2.2, ← hN]
      clear hN hw hs hB hp hq hq0 hx0 hx1 hx
      (repeat (first | (with_reducible refine ob_true ?_) | refine ob_mk (by first | (with_reducible exact beq_self_eq_true _) | (with_reducible exact nbeq _) | (with_reducible exact nble _) | (with_reducible exact seq_rfl _) | (with_reducible assumption) | (simp only [decide_eq_true_eq, Bool.and_eq_true, beq_iff_eq, Bool.true_and, Bool.and_true, Nat.beq_eq, Nat.ble_eq, true_and, and_true, ge_iff_le, gt_iff_lt]; first | done | omega)) ?_))
      refine ⟨hks, ?_⟩
      (repeat (first | (with_reducible refine ob_true ?_) | refine ob_mk (by first | (with_reducible exact beq_self_eq_true _) | (with_reducible exact nbeq _) | (with_reducible exact nble _) | (with_reducible exact seq_rfl _) | (with_reducible assumption) | (simp only [decide_eq_true_eq, Bool.and_eq_true, beq_iff_eq, Bool.true_and, Bool.and_true, Nat.beq_eq, Nat.ble_eq, true_and, and_true, ge_iff_le, gt_iff_lt]; first | done | omega)) ?_))
      trivial
    · have hge := of_decide_eq_false hge
      have hF := hF k (by omega)
      rw [hF]
      (repeat (first | (with_reducible refine ob_true ?_) | refine ob_mk (by first | (with_reducible exact beq_self_eq_true _) | (with_reducible exact nbeq _) | (with_reducible exact nble _) | (with_reducible exact seq_rfl _) | (with_reducible assumption) | (simp only [decide_eq_true_eq, Bool.and_eq_true, beq_iff_eq, Bool.true_and, Bool.and_true, Nat.beq_eq, Nat.ble_eq, true_and, and_true, ge_iff_le, gt_iff_lt]; first | done | omega)) ?_))
      exact (by repeat' (first | exact trivial | exact rfl | apply And.intro | (intro h; exact h)))
  · exact h.elim

end Go.Proofs.Ytinmllbkdjceaaa.Sx
