/- The statement PolyAdds: differences of tags. No condition. -/
import Derived.Test.YtinmllbkdjceaaaSx11
import Derived.Test.YtinmllbkdjceaaaProg
import Derived.Test.YtinmllbkdjceaaaBits
import Derived.Test.YtinmllbkdjceaaaWords
import Derived.Test.YtinmllbkdjceaaaPoly1
import Derived.Test.YtinmllbkdjceaaaPoly2
import Derived.Test.YtinmllbkdjceaaaPoly3
import Derived.Test.YtinmllbkdjceaaaPoly4
import Derived.Test.YtinmllbkdjceaaaPoly5
import Derived.Test.YtinmllbkdjceaaaPoly6
import Derived.Test.YtinmllbkdjceaaaLaw10
namespace Go.Proofs.Ytinmllbkdjceaaa.Sx
open Go Go.Proofs
set_option maxRecDepth 100000
set_option linter.unusedSimpArgs false
set_option linter.unusedVariables false

/-- The difference of the numbers of so many bytes. -/
def dN (x y : List Int) (i : Nat) : Int := numK x 0 i - numK y 0 i
/-- What is borrowed at a byte. -/
def bw (x y : List Int) (i : Nat) : Int := -(dN x y i / 256 ^ i)
def dd (x y : List Int) (i : Nat) : Int := dN x y (i + 1) / 256 ^ i
def outD (x y : List Int) : Nat → List Int
  | 0 => [0, 0, 0, 0, 0, 0, 0, 0, 0, 0, 0, 0, 0, 0, 0, 0]
  | i + 1 => (outD x y i).set i (dd x y i % 256)
def lessS : Spec := .q fun args blks K => match args, blks with
  | [.v (.string a), .v (.string b)], [] => ob (decide (a.size = 16) && decide (b.size = 16)) (K (.ia .u8 (outD (bytesL a) (bytesL b) 16)))
  | _, _ => False
theorem less_vf (a b : ByteArray) (K : SV → List Blk → List Nat → Prop) : vf Try.prog [] (fun _ st => .inv 16 fun k => { st with env := (7, inat k) :: (6, .v (.int .i64 (bw (bytesL a) (bytesL b) k))) :: keep st.env [0, 1, 4, 5], tbl := st.tbl.set 1 (.ints true .u8 (outD (bytesL a) (bytesL b) k)) }) Try.f26 [.v (.string a), .v (.string b)] [] K =
  (ob true (ob ((0 : Int) == bw (bytesL a) (bytesL b) (0 : Nat)) (ob (seq a a) (ob (seq b b) (ob true (ob true (ob true (ob true (ob true (ob true (ob true (ob true (ob true (ob true (ob true (ob true (ob true (ob true (ob true (ob true (ob true (ob true (ob true (ob true (ob true (ob true (ob ([(0 : Int), (0 : Int), (0 : Int), (0 : Int), (0 : Int), (0 : Int), (0 : Int), (0 : Int), (0 : Int), (0 : Int), (0 : Int), (0 : Int), (0 : Int), (0 : Int), (0 : Int), (0 : Int)] == outD (bytesL a) (bytesL b) (0 : Nat)) (∀ (k : Nat), k ≤ (16 : Nat) → bc (decide ((↑k : Int) < (16 : Int))) (ob (true && decide ((↑k : Int) < (↑a.size : Int))) (ob (true && decide ((↑k : Int) < (↑b.size : Int))) (bc (decide (IntKind.i64.wrap (IntKind.i64.wrap (IntKind.i64.wrap (bt a (↑k : Int)) - IntKind.i64.wrap (bt b (↑k : Int))) - bw (bytesL a) (bytesL b) k) < (0 : Int))) (ob (true && decide ((↑k : Int) < (16 : Int))) (ob (decide ((0 : Nat) + (↑k : Int).toNat * (1 : Nat) < (outD (bytesL a) (bytesL b) k).length)) (k < (16 : Nat) ∧ ob (IntKind.i64.wrap ((↑k : Int) + (1 : Int)) == (↑(k + (1 : Nat)) : Int)) (ob ((1 : Int) == bw (bytesL a) (bytesL b) (k + (1 : Nat))) (ob (seq a a) (ob (seq b b) (ob true (ob true (ob true (ob true (ob true (ob true (ob true (ob true (ob true (ob true (ob true (ob true (ob true (ob true (ob true (ob true (ob true (ob true (ob true (ob true (ob true (ob true (ob ((outD (bytesL a) (bytesL b) k).set ((0 : Nat) + (↑k : Int).toNat * (1 : Nat)) (IntKind.u8.wrap (IntKind.i64.wrap (IntKind.i64.wrap (IntKind.i64.wrap (IntKind.i64.wrap (bt a (↑k : Int)) - IntKind.i64.wrap (bt b (↑k : Int))) - bw (bytesL a) (bytesL b) k) + (256 : Int)))) == outD (bytesL a) (bytesL b) (k + (1 : Nat))) True))))))))))))))))))))))))))))) (ob (true && decide ((↑k : Int) < (16 : Int))) (ob (decide ((0 : Nat) + (↑k : Int).toNat * (1 : Nat) < (outD (bytesL a) (bytesL b) k).length)) (k < (16 : Nat) ∧ ob (IntKind.i64.wrap ((↑k : Int) + (1 : Int)) == (↑(k + (1 : Nat)) : Int)) (ob ((0 : Int) == bw (bytesL a) (bytesL b) (k + (1 : Nat))) (ob (seq a a) (ob (seq b b) (ob true (ob true (ob true (ob true (ob true (ob true (ob true (ob true (ob true (ob true (ob true (ob true (ob true (ob true (ob true (ob true (ob true (ob true (ob true (ob true (ob true (ob true (ob ((outD (bytesL a) (bytesL b) k).set ((0 : Nat) + (↑k : Int).toNat * (1 : Nat)) (IntKind.u8.wrap (IntKind.i64.wrap (IntKind.i64.wrap (IntKind.i64.wrap (bt a (↑k : Int)) - IntKind.i64.wrap (bt b (↑k : Int))) - bw (bytesL a) (bytesL b) k))) == outD (bytesL a) (bytesL b) (k + (1 : Nat))) True)))))))))))))))))))))))))))))))) (ob (decide ((outD (bytesL a) (bytesL b) k).length = (16 : Nat))) (ob ((outD (bytesL a) (bytesL b) k).length.beq (16 : Nat)) (ob (decide ((outD (bytesL a) (bytesL b) k).length = (16 : Nat))) (K (SV.ia IntKind.u8 (outD (bytesL a) (bytesL b) k)) [Blk.ints true IntKind.u8 (outD (bytesL a) (bytesL b) k), Blk.ints true IntKind.u8 (outD (bytesL a) (bytesL b) k)] [])))))))))))))))))))))))))))))))) := by kernel_rfl
theorem adds_vf (key other s : ByteArray) (K : SV → List Blk → List Nat → Prop) : vf Try.prog [(21, awakeS), (26, lessS), (22, macS)] (noI) Try.f10 [.v (.string key), .v (.string other), .v (.string s)] [] K =
  (bc ((↑key.size : Int) != (32 : Int)) (K (SV.v (Value.bool true)) [] []) (bc (bif false then true else (↑other.size : Int) != (16 : Int)) (K (SV.v (Value.bool true)) [] []) (bc (bif false then true else decide ((↑s.size : Int) > (2000 : Int))) (K (SV.v (Value.bool true)) [] []) (ob (decide (s.size ≤ (100000 : Nat))) (bc (badK key) (ob (true && decide ((16 : Int) ≤ (↑key.size : Int))) (ob (decide ((key.extract (0 : Nat) (16 : Nat)).size + other.size ≤ (9223372036854775807 : Nat))) (ob (decide (s.size ≤ (100000 : Nat))) (bc (badK (key.extract (0 : Nat) (16 : Nat) ++ other)) (K (SV.v (Value.bool false)) [] []) (K (SV.v (Value.bool false)) [] []))))) (ob (true && decide ((16 : Int) ≤ (↑key.size : Int))) (ob (decide ((key.extract (0 : Nat) (16 : Nat)).size + other.size ≤ (9223372036854775807 : Nat))) (ob (decide (s.size ≤ (100000 : Nat))) (bc (badK (key.extract (0 : Nat) (16 : Nat) ++ other)) (K (SV.v (Value.bool false)) [] []) (bc (bif false then true else (↑(macF key s).size : Int) != (16 : Int)) (K (SV.v (Value.bool false)) [] []) (bc (bif false then true else (↑(macF (key.extract (0 : Nat) (16 : Nat) ++ other) s).size : Int) != (16 : Int)) (K (SV.v (Value.bool false)) [] []) (ob (true && decide ((16 : Int) ≤ (↑key.size : Int))) (ob (decide ((macF key s).size = (16 : Nat)) && decide ((key.extract (16 : Nat) key.size).size = (16 : Nat))) (ob (decide ((macF (key.extract (0 : Nat) (16 : Nat) ++ other) s).size = (16 : Nat)) && decide (other.size = (16 : Nat))) (ob (decide ((outD (bytesL (macF key s)) (bytesL (key.extract (16 : Nat) key.size)) (16 : Nat)).length = (16 : Nat)) && decide ((outD (bytesL (macF (key.extract (0 : Nat) (16 : Nat) ++ other) s)) (bytesL other) (16 : Nat)).length = (16 : Nat))) (bc (outD (bytesL (macF key s)) (bytesL (key.extract (16 : Nat) key.size)) (16 : Nat) == outD (bytesL (macF (key.extract (0 : Nat) (16 : Nat) ++ other) s)) (bytesL other) (16 : Nat)) (K (SV.v (Value.bool true)) [] []) (K (SV.v (Value.bool false)) [] []))))))))))))))))) := by kernel_rfl
theorem dN_s (x y : List Int) (i : Nat) : dN x y (i + 1) = dN x y i + (x.getD i 0 - y.getD i 0) * 256 ^ i := by
  rw [dN, dN, numK.eq_2, numK.eq_2, Nat.zero_add, Int.sub_mul]; omega
theorem dN_b {x y : List Int} (hx : okB x = true) (hy : okB y = true) (i : Nat) : -(256 ^ i) < dN x y i ∧ dN x y i < 256 ^ i := by
  have h1 := numK_bound hx 0 i
  have h2 := numK_bound hy 0 i
  rw [dN]; omega
theorem bw_b {x y : List Int} (hx : okB x = true) (hy : okB y = true) (i : Nat) : 0 ≤ bw x y i ∧ bw x y i ≤ 1 := by
  have h := dN_b hx hy i
  have hp : (0 : Int) < 256 ^ i := Int.pow_pos (by decide)
  rw [bw]
  generalize (256 : Int) ^ i = p at *
  have h1 : -1 ≤ dN x y i / p := by
    rw [Int.le_ediv_iff_mul_le hp]; omega
  have h2 : dN x y i / p < 1 := by
    rw [Int.ediv_lt_iff_lt_mul hp]; omega
  omega
theorem dd_eq (x y : List Int) (i : Nat) : dd x y i = x.getD i 0 - y.getD i 0 - bw x y i := by
  have hp : (256 : Int) ^ i ≠ 0 := Int.ne_of_gt (Int.pow_pos (by decide))
  rw [dd, dN_s, bw, Int.add_mul_ediv_right _ _ hp]; omega
theorem bw_s (x y : List Int) (i : Nat) : bw x y (i + 1) = -(dd x y i / 256) := by
  rw [bw, dd, Int.pow_succ, Int.ediv_ediv_of_nonneg (Int.le_of_lt (Int.pow_pos (by decide)))]
theorem outD_len (x y : List Int) : ∀ k, (outD x y k).length = 16
  | 0 => by rw [outD]; rfl
  | k + 1 => by rw [outD, List.length_set, outD_len x y k]
theorem less_ok : SpecOK Try.prog 26 lessS := by
  refine q_of mixed SpecsOK.nil Try.func26 rfl rfl fun args blks K h => ?_
  split at h
  · rename_i a b
    rw [ob_iff, Bool.and_eq_true, decide_eq_true_eq, decide_eq_true_eq] at h
    obtain ⟨⟨ha, hb⟩, hg⟩ := h
    refine ⟨_, rfl, hg, rfl, (fun _ st => .inv 16 fun k => { st with env := (7, inat k) :: (6, .v (.int .i64 (bw (bytesL a) (bytesL b) k))) :: keep st.env [0, 1, 4, 5], tbl := st.tbl.set 1 (.ints true .u8 (outD (bytesL a) (bytesL b) k)) }), ?_⟩
    rw [less_vf]
    have oa := okB_bytes a
    have ob' := okB_bytes b
    have ta := bt_bytesL a
    have tb := bt_bytesL b
    rw [ha, hb]
    generalize bytesL a = x at *
    generalize bytesL b = y at *
    have h0 : bw x y 0 = 0 := by rw [bw, dN, numK, numK]; rfl
    have h1 : outD x y 0 = [0, 0, 0, 0, 0, 0, 0, 0, 0, 0, 0, 0, 0, 0, 0, 0] := by rw [outD]
    (repeat (first | (with_reducible refine ob_true ?_) | refine ob_mk (by first | (with_reducible exact beq_self_eq_true _) | (with_reducible exact nbeq _) | (with_reducible exact nble _) | (with_reducible exact seq_rfl _) | (with_reducible assumption) | (simp only [decide_eq_true_eq, Bool.and_eq_true, beq_iff_eq, Bool.true_and, Bool.and_true, Nat.beq_eq, Nat.ble_eq, true_and, and_true, ge_iff_le, gt_iff_lt, h0, h1]; first | done | omega)) ?_))
    intro k hk
    have hkl := outD_len x y k
    have hks : outD x y (k + 1) = (outD x y k).set k (dd x y k % 256) := by rw [outD]
    have b1 := okB_get oa k
    have b2 := okB_get ob' k
    have b3 := bw_b oa ob' k
    have hd := dd_eq x y k
    have hs := bw_s x y k
    rw [ta, tb]
    clear ta tb oa ob' h0 h1
    generalize x.getD k 0 = u at *
    generalize y.getD k 0 = v at *
    have e1 : 0 + (k : Int).toNat * 1 = k := by omega
    have w1 : IntKind.i64.wrap (IntKind.i64.wrap (IntKind.i64.wrap u - IntKind.i64.wrap v) - bw x y k) = dd x y k := by
      rw [wrap_i64 u (by omega) (by omega), wrap_i64 v (by omega) (by omega), wrap_i64 (u - v) (by omega) (by omega), wrap_i64 _ (by omega) (by omega)]; omega
    have w2 : IntKind.i64.wrap ((k : Int) + 1) = ((k + 1 : Nat) : Int) := by rw [wrap_i64 _ (by omega) (by omega)]; omega
    have w3 : IntKind.u8.wrap (IntKind.i64.wrap (dd x y k + 256)) = dd x y k % 256 := by rw [wrap_i64 _ (by omega) (by omega), wrap_u8]; omega
    have w4 : IntKind.u8.wrap (dd x y k) = dd x y k % 256 := wrap_u8 _
    rw [w1, w2, w3, w4, e1, hks]
    refine bc_mk (fun hlt => ?_) (fun hge => ?_)
    · have hlt := of_decide_eq_true hlt
      have hk16 : k < 16 := by omega
      (repeat (first | (with_reducible refine ob_true ?_) | refine ob_mk (by first | (with_reducible exact beq_self_eq_true _) | (with_reducible exact nbeq _) | (with_reducible exact nble _) | (with_reducible exact seq_rfl _) | (with_reducible assumption) | (simp only [decide_eq_true_eq, Bool.and_eq_true, beq_iff_eq, Bool.true_and, Bool.and_true, Nat.beq_eq, Nat.ble_eq, true_and, and_true, ge_iff_le, gt_iff_lt]; first | done | omega)) ?_))
      refine bc_mk (fun hn => ?_) (fun hn => ?_)
      · have hn := of_decide_eq_true hn
        have hv : bw x y (k + 1) = 1 := by omega
        rw [hv]
        clear hs hd w1 w2 w3 w4 e1 hks
        (repeat (first | (with_reducible refine ob_true ?_) | refine ob_mk (by first | (with_reducible exact beq_self_eq_true _) | (with_reducible exact nbeq _) | (with_reducible exact nble _) | (with_reducible exact seq_rfl _) | (with_reducible assumption) | (simp only [decide_eq_true_eq, Bool.and_eq_true, beq_iff_eq, Bool.true_and, Bool.and_true, Nat.beq_eq, Nat.ble_eq, true_and, and_true, ge_iff_le, gt_iff_lt, hkl]; first | done | omega)) ?_))
        refine ⟨hk16, ?_⟩
        (repeat (first | (with_reducible refine ob_true ?_) | refine ob_mk (by first | (with_reducible exact beq_self_eq_true _) | (with_reducible exact nbeq _) | (with_reducible exact nble _) | (with_reducible exact seq_rfl _) | (with_reducible assumption) | (simp only [decide_eq_true_eq, Bool.and_eq_true, beq_iff_eq, Bool.true_and, Bool.and_true, Nat.beq_eq, Nat.ble_eq, true_and, and_true, ge_iff_le, gt_iff_lt]; first | done | omega)) ?_))
        trivial
      · have hn := of_decide_eq_false hn
        have hv : bw x y (k + 1) = 0 := by omega
        rw [hv]
        clear hs hd w1 w2 w3 w4 e1 hks
        (repeat (first | (with_reducible refine ob_true ?_) | refine ob_mk (by first | (with_reducible exact beq_self_eq_true _) | (with_reducible exact nbeq _) | (with_reducible exact nble _) | (with_reducible exact seq_rfl _) | (with_reducible assumption) | (simp only [decide_eq_true_eq, Bool.and_eq_true, beq_iff_eq, Bool.true_and, Bool.and_true, Nat.beq_eq, Nat.ble_eq, true_and, and_true, ge_iff_le, gt_iff_lt, hkl]; first | done | omega)) ?_))
        refine ⟨hk16, ?_⟩
        (repeat (first | (with_reducible refine ob_true ?_) | refine ob_mk (by first | (with_reducible exact beq_self_eq_true _) | (with_reducible exact nbeq _) | (with_reducible exact nble _) | (with_reducible exact seq_rfl _) | (with_reducible assumption) | (simp only [decide_eq_true_eq, Bool.and_eq_true, beq_iff_eq, Bool.true_and, Bool.and_true, Nat.beq_eq, Nat.ble_eq, true_and, and_true, ge_iff_le, gt_iff_lt]; first | done | omega)) ?_))
        trivial
    · have hge := of_decide_eq_false hge
      have k16 : k = 16 := by omega
      (repeat (first | (with_reducible refine ob_true ?_) | refine ob_mk (by first | (with_reducible exact beq_self_eq_true _) | (with_reducible exact nbeq _) | (with_reducible exact nble _) | (with_reducible exact seq_rfl _) | (with_reducible assumption) | (simp only [decide_eq_true_eq, Bool.and_eq_true, beq_iff_eq, Bool.true_and, Bool.and_true, Nat.beq_eq, Nat.ble_eq, true_and, and_true, ge_iff_le, gt_iff_lt, hkl]; first | done | omega)) ?_))
      refine ⟨?_, (by repeat' (first | exact trivial | exact rfl | apply And.intro | (intro h; exact h)))⟩
      rw [k16]
  · exact h.elim
theorem outP_get (a b : Int) : ∀ k : Nat, k ≤ 8 → ∀ i, i < k → (outP a b k).getD i 0 = IntKind.u8.wrap (ishr .u64 a (8 * (i : Int))) ∧ (outP a b k).getD (8 + i) 0 = IntKind.u8.wrap (ishr .u64 b (8 * (i : Int)))
  | k + 1, hk, i, hi => by
    have hl := outP_len a b k
    rw [outP, List.getD_eq_getElem?_getD, List.getD_eq_getElem?_getD]
    by_cases e : i = k
    · subst e
      rw [List.getElem?_set_ne (by omega), List.getElem?_set_self (by omega), List.getElem?_set_self (by rw [List.length_set]; omega)]
      exact ⟨rfl, rfl⟩
    · have ih := outP_get a b k (by omega) i (by omega)
      rw [List.getElem?_set_ne (by omega), List.getElem?_set_ne (by omega), List.getElem?_set_ne (by omega), List.getElem?_set_ne (by omega), ← List.getD_eq_getElem?_getD, ← List.getD_eq_getElem?_getD]
      exact ih
theorem byte_at (a : Int) (i : Nat) (hi : i < 8) : IntKind.u8.wrap (ishr .u64 a (8 * (i : Int))) = a / 256 ^ i % 256 := by
  rw [wrap_u8, show (8 * (i : Int)) = ((8 * i : Nat) : Int) by omega, ishr_div .u64 a (8 * i) (by simp [IntKind.bits]; omega), pow_256]
theorem numK_digits (l : List Int) (off : Nat) (a : Int) (h0 : 0 ≤ a) : ∀ n, (∀ i, i < n → l.getD (off + i) 0 = a / 256 ^ i % 256) → numK l off n = a % 256 ^ n
  | 0, _ => by rw [numK]; omega
  | n + 1, h => by
    rw [numK, numK_digits l off a h0 n (fun i hi => h i (by omega)), h n (by omega)]
    obtain ⟨m, rfl⟩ := Int.eq_ofNat_of_zero_le h0
    have := Nat.mod_mul (a := 256 ^ n) (b := 256) (x := m)
    have e : (((m % (256 ^ n * 256) : Nat)) : Int) = ((m % 256 ^ n + 256 ^ n * (m / 256 ^ n % 256) : Nat) : Int) := by rw [this]
    push_cast at e
    rw [Int.pow_succ, e, Int.mul_comm ((256 : Int) ^ n)]
theorem outP_num (a b : Int) (ha : 0 ≤ a) (ha' : a < 18446744073709551616) (hb : 0 ≤ b) (hb' : b < 18446744073709551616) : numK (outP a b 8) 0 16 = a + 18446744073709551616 * b := by
  have h := numK_add (outP a b 8) 0 8 8
  rw [numK_digits _ 0 a ha 8 (fun i hi => by rw [Nat.zero_add, (outP_get a b 8 (Nat.le_refl _) i hi).1, byte_at a i hi]), Nat.zero_add, numK_digits _ 8 b hb 8 (fun i hi => by rw [(outP_get a b 8 (Nat.le_refl _) i hi).2, byte_at b i hi])] at h
  rw [show 16 = 8 + 8 from rfl, h, show (256 : Int) ^ 8 = 18446744073709551616 from rfl]
  omega
theorem outP_range (a b : Int) : ∀ k, ∀ x ∈ outP a b k, 0 ≤ x ∧ x < 256
  | 0 => by rw [outP]; intro x hx; simp at hx; subst hx; decide
  | k + 1 => by
    rw [outP]
    intro x hx
    rcases List.mem_or_eq_of_mem_set hx with h | rfl
    · rcases List.mem_or_eq_of_mem_set h with h | rfl
      · exact outP_range a b k x h
      · rw [wrap_u8]; omega
    · rw [wrap_u8]; omega
theorem tag_num (X S : Int) (hS : 0 ≤ S) : numK (bytesL (tagF X S)) 0 16 = (X % 1361129467683753853853498429727072845819 + S) % 340282366920938463463374607431768211456 := by
  rw [tagF, bytesL_bstr (outP_range _ _ 8)]
  have h : 0 ≤ X % 1361129467683753853853498429727072845819 + S := by omega
  generalize X % 1361129467683753853853498429727072845819 + S = T at *
  rw [outP_num _ _ (by omega) (by omega) (by omega) (by omega)]
  omega
theorem val2_num (l : List Int) : val2 (numK l 0 8) (numK l 8 8) = numK l 0 16 := by
  rw [val2, show 16 = 8 + 8 from rfl, numK_add l 0 8 8, Nat.zero_add, show (256 : Int) ^ 8 = 18446744073709551616 from rfl]; omega
theorem dd_mod (x y : List Int) (i : Nat) (hi : i < 16) : dd x y i % 256 = dN x y 16 / 256 ^ i % 256 := by
  have hp : (256 : Int) ^ i ≠ 0 := Int.ne_of_gt (Int.pow_pos (by decide))
  have e : dN x y 16 = dN x y (i + 1) + ((numK x (i + 1) (15 - i) - numK y (i + 1) (15 - i)) * 256) * 256 ^ i := by
    rw [dN, show 16 = (i + 1) + (15 - i) by omega, numK_add x 0 (i + 1), numK_add y 0 (i + 1), Nat.zero_add, dN, Int.pow_succ]
    generalize (256 : Int) ^ i = p
    generalize numK x (i + 1) (15 - i) = u
    generalize numK y (i + 1) (15 - i) = v
    grind
  rw [dd, e, Int.add_mul_ediv_right _ _ hp]
  omega
theorem outD_same {x y x' y' : List Int} {q : Int} (h : dN x y 16 = dN x' y' 16 + q * 340282366920938463463374607431768211456) : ∀ k, k ≤ 16 → outD x y k = outD x' y' k
  | 0, _ => by rw [outD, outD]
  | k + 1, hk => by
    have hp : (256 : Int) ^ k ≠ 0 := Int.ne_of_gt (Int.pow_pos (by decide))
    have e : dd x y k % 256 = dd x' y' k % 256 := by
      rw [dd_mod x y k (by omega), dd_mod x' y' k (by omega), h]
      have e2 : q * 340282366920938463463374607431768211456 = (q * 256 ^ (15 - k) * 256) * 256 ^ k := by
        rw [show (340282366920938463463374607431768211456 : Int) = 256 ^ 16 from rfl, show 16 = (15 - k) + 1 + k by omega, Int.pow_add, Int.pow_succ]
        simp only [Int.mul_assoc]
      rw [e2, Int.add_mul_ediv_right _ _ hp]
      omega
    rw [outD, outD, outD_same h k (by omega), e]
def str3S : Spec := .q fun args blks K => match args, blks with
  | [.v (.string _), .v (.string _), .v (.string _)], [] => K (.v (.bool true))
  | _, _ => False
/-- The tag less the second half: the product alone. -/
theorem tag_less (X S : Int) (l : List Int) (hl : okB l = true) (h : numK l 0 16 = S) : ∃ q : Int, dN (bytesL (tagF X S)) l 16 = X % 1361129467683753853853498429727072845819 + q * 340282366920938463463374607431768211456 := by
  have hS : 0 ≤ S := by rw [← h]; exact (numK_bound hl 0 16).1
  refine ⟨-((X % 1361129467683753853853498429727072845819 + S) / 340282366920938463463374607431768211456), ?_⟩
  rw [dN, tag_num X S hS, h]
  omega
theorem adds_ok : SpecOK Try.prog 10 str3S := by
  have hS : SpecsOK Try.prog [(21, awakeS), (26, lessS), (22, macS)] := SpecsOK.cons awake_ok (SpecsOK.cons less_ok (SpecsOK.cons pMac_ok SpecsOK.nil))
  refine q_of mixed hS Try.func10 rfl rfl fun args blks K h => ?_
  split at h
  · rename_i key other s
    refine ⟨_, rfl, h, rfl, noI, ?_⟩
    rw [adds_vf]
    refine bc_mk (fun _ => (by repeat' (first | exact trivial | exact rfl | apply And.intro | (intro h; exact h)))) (fun h1 => bc_mk (fun _ => (by repeat' (first | exact trivial | exact rfl | apply And.intro | (intro h; exact h)))) (fun h2 => bc_mk (fun _ => (by repeat' (first | exact trivial | exact rfl | apply And.intro | (intro h; exact h)))) (fun h3 => ?_)))
    have hk : key.size = 32 := by simp at h1; omega
    have ho : other.size = 16 := by simp at h2; omega
    have h3 := of_decide_eq_false h3
    have z1 : (key.extract 0 16).size = 16 := by rw [ByteArray.size_extract]; omega
    have z2 : (key.extract 16 key.size).size = 16 := by rw [ByteArray.size_extract]; omega
    have b2 : badK key = false := by unfold badK; rw [hk]; rfl
    have b3 : badK (key.extract 0 16 ++ other) = false := by unfold badK; rw [ByteArray.size_append, z1, ho]; rfl
    have e1 : (key.extract 0 16 ++ other).extract 0 16 = key.extract 0 16 := by
      apply bytesL_inj
      rw [bytesL_ext, bytesL_app, List.drop_zero, List.take_append_of_le_length (by rw [bytesL_len]; omega), List.take_of_length_le (by rw [bytesL_len]; omega)]
    have e2 : (key.extract 0 16 ++ other).extract 16 (key.extract 0 16 ++ other).size = other := by
      apply bytesL_inj
      rw [bytesL_ext, bytesL_app, ByteArray.size_append, List.take_of_length_le (by rw [List.length_append, bytesL_len, bytesL_len]; omega), List.drop_append_of_le_length (by rw [bytesL_len]; omega), List.drop_eq_nil_of_le (by rw [bytesL_len]; omega), List.nil_append]
    have key1 : outD (bytesL (macF key s)) (bytesL (key.extract 16 key.size)) 16 = outD (bytesL (macF (key.extract 0 16 ++ other) s)) (bytesL other) 16 := by
      rw [macF, macF, kr0, kr0, kr1, kr1, ks0, ks0, ks1, ks1, e1, e2, val2_num, val2_num, val2_num]
      obtain ⟨q1, h1⟩ := tag_less (accP 0 (numK (bytesL (clampF (key.extract 0 16))) 0 16) s ((s.size + 15) / 16)) _ _ (okB_bytes (key.extract 16 key.size)) rfl
      obtain ⟨q2, h2⟩ := tag_less (accP 0 (numK (bytesL (clampF (key.extract 0 16))) 0 16) s ((s.size + 15) / 16)) _ _ (okB_bytes other) rfl
      refine outD_same (q := q1 - q2) ?_ 16 (Nat.le_refl _)
      rw [h1, h2]; omega
    have y1 := macF_size key s
    have y2 := macF_size (key.extract 0 16 ++ other) s
    have y3 := outD_len (bytesL (macF (key.extract 0 16 ++ other) s)) (bytesL other) 16
    rw [b2, b3, key1, y1, y2, z1, z2, ho, y3]
    generalize outD (bytesL (macF (key.extract 0 16 ++ other) s)) (bytesL other) 16 = o at *
    clear key1 e1 e2
    (repeat (first | (with_reducible refine ob_true ?_) | refine ob_mk (by first | (with_reducible exact beq_self_eq_true _) | (with_reducible exact nbeq _) | (with_reducible exact nble _) | (with_reducible exact seq_rfl _) | (with_reducible assumption) | (simp only [decide_eq_true_eq, Bool.and_eq_true, beq_iff_eq, Bool.true_and, Bool.and_true, Nat.beq_eq, Nat.ble_eq, true_and, and_true, ge_iff_le, gt_iff_lt]; first | done | omega)) ?_))
    rw [beq_self_eq_true]
    exact (by repeat' (first | exact trivial | exact rfl | apply And.intro | (intro h; exact h)))
  · exact h.elim

end Go.Proofs.Ytinmllbkdjceaaa.Sx
