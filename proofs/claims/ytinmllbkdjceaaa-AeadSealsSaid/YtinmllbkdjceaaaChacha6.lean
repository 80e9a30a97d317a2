/- ChaCha20: the reference's texts xored. No condition. -/
import Derived.Test.YtinmllbkdjceaaaSx11
import Derived.Test.YtinmllbkdjceaaaProg
import Derived.Test.YtinmllbkdjceaaaBits
import Derived.Test.YtinmllbkdjceaaaChacha1
import Derived.Test.YtinmllbkdjceaaaChacha2
import Derived.Test.YtinmllbkdjceaaaChacha3
import Derived.Test.YtinmllbkdjceaaaChacha4
import Derived.Test.YtinmllbkdjceaaaChacha5
namespace Go.Proofs.Ytinmllbkdjceaaa.Sx
open Go Go.Proofs
set_option maxRecDepth 100000
set_option linter.unusedSimpArgs false
set_option linter.unusedVariables false

def blockG : Spec := .q fun args blks K => match args, blks with
  | [.v (.string key), .v (.string nonce), .v (.int .u32 n)], [] => ob (!badKey key nonce)
      (K (.tup [.v (.string (blockF key nonce n)), .v (.int .i64 0)]))
  | _, _ => False
theorem rxor_vf (key nonce : ByteArray) (n : Int) (s : ByteArray) (K : SV → List Blk → List Nat → Prop) : vf Try.prog [(17, blockG)] (fun id st => match id with
  | 0 => .inv ((s.size + 63) / 64) fun k => { st with env := (11, .v (.int .i64 (64 * (k : Int)))) :: keep st.env [0, 1, 2, 8, 9, 10], tbl := st.tbl.set 0 (.ints true .u8 (xoutF (initF key nonce n) (bytesL s) k)) }
  | _ => .inv 64 fun j => { st with env := (14, inat j) :: keep st.env [0, 1, 2, 8, 9, 10, 11, 12, 13], tbl := st.tbl.set 0 (.ints true .u8 (xinF (sbytes (sv st 12)) (nv (sv st 11)) (gi st 0) j)) }) Try.f20 [.v (.string key), .v (.string nonce), .v (.int .u32 n), .v (.string s)] [] K =
  (bc ((↑key.size : Int) != 32) (K (SV.tup [SV.v (Value.string { data := { toList := [] } }), SV.v (Value.int IntKind.i64 2)]) [] []) (bc (bif false then true else (↑nonce.size : Int) != 12) (K (SV.tup [SV.v (Value.string { data := { toList := [] } }), SV.v (Value.int IntKind.i64 2)]) [] []) (ob true (ob (seq key key) (ob (seq nonce nonce) (ob (n == n) (ob true (ob true (ob true (ob true (ob (s.size.beq s.size) (ob (s.size.ble s.size) (ob (s.size.ble s.size) (ob true (ob true (ob (bytesL s == xoutF (initF key nonce n) (bytesL s) 0) (∀ (k : Nat), k ≤ (s.size + 63) / 64 → bc (decide (64 * (↑k : Int) < (↑s.size : Int))) (ob true (ob (!badKey key nonce) (ob true (ob (seq key key) (ob (seq nonce nonce) (ob (n == n) (ob true (ob true (ob true (ob true (ob (s.size.beq s.size) (ob (s.size.ble s.size) (ob (s.size.ble s.size) (ob true (ob (64 * (↑k : Int) == 64 * (↑k : Int)) (ob (seq (blockF key nonce (IntKind.u32.wrap (n + IntKind.u32.wrap (IntKind.i64.wrap ((64 * (↑k : Int)).tdiv 64))))) (blockF key nonce (IntKind.u32.wrap (n + IntKind.u32.wrap (IntKind.i64.wrap ((64 * (↑k : Int)).tdiv 64)))))) (ob true (ob true (ob (xoutF (initF key nonce n) (bytesL s) k == xinF (sbytes (SV.v (Value.string (blockF key nonce (IntKind.u32.wrap (n + IntKind.u32.wrap (IntKind.i64.wrap ((64 * (↑k : Int)).tdiv 64)))))))) (nv (SV.v (Value.int IntKind.i64 (64 * (↑k : Int))))) (xoutF (initF key nonce n) (bytesL s) k) 0) (∀ (k_1 : Nat), k_1 ≤ 64 → bc (decide ((↑k_1 : Int) < 64)) (bc (bif true then decide (IntKind.i64.wrap (64 * (↑k : Int) + (↑k_1 : Int)) < (↑s.size : Int)) else false) (ob (decide (0 ≤ IntKind.i64.wrap (64 * (↑k : Int) + (↑k_1 : Int))) && decide (IntKind.i64.wrap (64 * (↑k : Int) + (↑k_1 : Int)) < (↑s.size : Int))) (ob (decide (0 + (IntKind.i64.wrap (64 * (↑k : Int) + (↑k_1 : Int))).toNat * 1 < (xinF (sbytes (SV.v (Value.string (blockF key nonce (IntKind.u32.wrap (n + IntKind.u32.wrap (IntKind.i64.wrap ((64 * (↑k : Int)).tdiv 64)))))))) (nv (SV.v (Value.int IntKind.i64 (64 * (↑k : Int))))) (xoutF (initF key nonce n) (bytesL s) k) k_1).length)) (ob (true && decide ((↑k_1 : Int) < (↑(blockF key nonce (IntKind.u32.wrap (n + IntKind.u32.wrap (IntKind.i64.wrap ((64 * (↑k : Int)).tdiv 64))))).size : Int))) (ob (decide (0 ≤ IntKind.i64.wrap (64 * (↑k : Int) + (↑k_1 : Int))) && decide (IntKind.i64.wrap (64 * (↑k : Int) + (↑k_1 : Int)) < (↑s.size : Int))) (ob (decide (0 + (IntKind.i64.wrap (64 * (↑k : Int) + (↑k_1 : Int))).toNat * 1 < (xinF (sbytes (SV.v (Value.string (blockF key nonce (IntKind.u32.wrap (n + IntKind.u32.wrap (IntKind.i64.wrap ((64 * (↑k : Int)).tdiv 64)))))))) (nv (SV.v (Value.int IntKind.i64 (64 * (↑k : Int))))) (xoutF (initF key nonce n) (bytesL s) k) k_1).length)) (k_1 < 64 ∧ ob (IntKind.i64.wrap ((↑k_1 : Int) + 1) == (↑(k_1 + 1) : Int)) (ob (seq key key) (ob (seq nonce nonce) (ob (n == n) (ob true (ob true (ob true (ob true (ob (s.size.beq s.size) (ob (s.size.ble s.size) (ob (s.size.ble s.size) (ob true (ob (64 * (↑k : Int) == 64 * (↑k : Int)) (ob (seq (blockF key nonce (IntKind.u32.wrap (n + IntKind.u32.wrap (IntKind.i64.wrap ((64 * (↑k : Int)).tdiv 64))))) (blockF key nonce (IntKind.u32.wrap (n + IntKind.u32.wrap (IntKind.i64.wrap ((64 * (↑k : Int)).tdiv 64)))))) (ob true (ob true (ob ((xinF (sbytes (SV.v (Value.string (blockF key nonce (IntKind.u32.wrap (n + IntKind.u32.wrap (IntKind.i64.wrap ((64 * (↑k : Int)).tdiv 64)))))))) (nv (SV.v (Value.int IntKind.i64 (64 * (↑k : Int))))) (xoutF (initF key nonce n) (bytesL s) k) k_1).set (0 + (IntKind.i64.wrap (64 * (↑k : Int) + (↑k_1 : Int))).toNat * 1) (ixor IntKind.u8 ((xinF (sbytes (SV.v (Value.string (blockF key nonce (IntKind.u32.wrap (n + IntKind.u32.wrap (IntKind.i64.wrap ((64 * (↑k : Int)).tdiv 64)))))))) (nv (SV.v (Value.int IntKind.i64 (64 * (↑k : Int))))) (xoutF (initF key nonce n) (bytesL s) k) k_1).getD (0 + (IntKind.i64.wrap (64 * (↑k : Int) + (↑k_1 : Int))).toNat * 1) 0) (bt (blockF key nonce (IntKind.u32.wrap (n + IntKind.u32.wrap (IntKind.i64.wrap ((64 * (↑k : Int)).tdiv 64))))) (↑k_1 : Int))) == xinF (sbytes (SV.v (Value.string (blockF key nonce (IntKind.u32.wrap (n + IntKind.u32.wrap (IntKind.i64.wrap ((64 * (↑k : Int)).tdiv 64)))))))) (nv (SV.v (Value.int IntKind.i64 (64 * (↑k : Int))))) (xoutF (initF key nonce n) (bytesL s) k) (k_1 + 1)) True)))))))))))))))))))))) (k < (s.size + 63) / 64 ∧ ob (IntKind.i64.wrap (64 * (↑k : Int) + 64) == 64 * (↑(k + 1) : Int)) (ob (seq key key) (ob (seq nonce nonce) (ob (n == n) (ob true (ob true (ob true (ob true (ob (s.size.beq s.size) (ob (s.size.ble s.size) (ob (s.size.ble s.size) (ob true (ob true (ob (xinF (sbytes (SV.v (Value.string (blockF key nonce (IntKind.u32.wrap (n + IntKind.u32.wrap (IntKind.i64.wrap ((64 * (↑k : Int)).tdiv 64)))))))) (nv (SV.v (Value.int IntKind.i64 (64 * (↑k : Int))))) (xoutF (initF key nonce n) (bytesL s) k) k_1 == xoutF (initF key nonce n) (bytesL s) (k + 1)) True))))))))))))))) (k < (s.size + 63) / 64 ∧ ob (IntKind.i64.wrap (64 * (↑k : Int) + 64) == 64 * (↑(k + 1) : Int)) (ob (seq key key) (ob (seq nonce nonce) (ob (n == n) (ob true (ob true (ob true (ob true (ob (s.size.beq s.size) (ob (s.size.ble s.size) (ob (s.size.ble s.size) (ob true (ob true (ob (xinF (sbytes (SV.v (Value.string (blockF key nonce (IntKind.u32.wrap (n + IntKind.u32.wrap (IntKind.i64.wrap ((64 * (↑k : Int)).tdiv 64)))))))) (nv (SV.v (Value.int IntKind.i64 (64 * (↑k : Int))))) (xoutF (initF key nonce n) (bytesL s) k) k_1 == xoutF (initF key nonce n) (bytesL s) (k + 1)) True)))))))))))))))))))))))))))))))))) (ob (decide (0 + s.size ≤ (xoutF (initF key nonce n) (bytesL s) k).length)) (K (SV.tup [SV.v (Value.string (bstr (List.take s.size (List.drop 0 (xoutF (initF key nonce n) (bytesL s) k))))), SV.v (Value.int IntKind.i64 0)]) [Blk.ints true IntKind.u8 (xoutF (initF key nonce n) (bytesL s) k)] []))))))))))))))))))) := by kernel_rfl
theorem rblockG_ok : SpecOK Try.prog 17 blockG := by
  refine weaken rblock_ok fun args blks K h => ?_
  split at h
  · rename_i key nonce n
    rw [ob_iff] at h
    exact bc_mk (fun h1 => absurd h.1 (by rw [h1]; decide)) (fun _ => h.2)
  · exact h.elim
theorem entF_range (x s : List Int) (i : Nat) : 0 ≤ entF x s i ∧ entF x s i < 256 := by
  unfold entF
  rw [wrap_u8]; omega
theorem outF_range (X l : List Int) : ∀ x ∈ outF X l 64, 0 ≤ x ∧ x < 256 := by
  intro x hx
  rw [outF_all, List.mem_map] at hx
  obtain ⟨i, _, rfl⟩ := hx
  exact entF_range _ _ _
theorem bytesF_range (l : List Int) : ∀ x ∈ bytesF l, 0 ≤ x ∧ x < 256 := by
  obtain ⟨k, hk⟩ : ∃ k, k = 10 := ⟨_, rfl⟩
  rw [bytesF_eq l k hk]
  exact outF_range _ _
theorem nextsF_init (key nonce : ByteArray) (n : Int) (h0 : 0 ≤ n) (h1 : n < 4294967296) : ∀ k : Nat, nextsF (initF key nonce n) k = initF key nonce (IntKind.u32.wrap (n + k))
  | 0 => by rw [nextsF, wrap_u32]; congr 1; omega
  | k + 1 => by
    rw [nextsF, nextsF_init key nonce n h0 h1 k, nextF, initF, initF]
    have e : IntKind.u32.wrap (IntKind.u32.wrap (n + (k : Int)) + 1) = IntKind.u32.wrap (n + ((k + 1 : Nat) : Int)) := by rw [wrap_u32, wrap_u32, wrap_u32]; omega
    rw [← e]
    generalize IntKind.u32.wrap (n + (k : Int)) = m
    rfl
theorem xinF_stable (ks : List Int) (a : Nat) (b : List Int) (j : Nat) (h : b.length ≤ a + j) : ∀ m, xinF ks a b (j + m) = xinF ks a b j
  | 0 => rfl
  | m + 1 => by rw [← Nat.add_assoc, xinF, if_neg (by omega)]; exact xinF_stable ks a b j h m
theorem blockF_eq (key nonce : ByteArray) (n : Int) : blockF key nonce n = bstr (bytesF (initF key nonce n)) := by rw [blockF]
theorem rxor_ok : SpecOK Try.prog 20 xorS := by
  have hS : SpecsOK Try.prog [(17, blockG)] := SpecsOK.cons rblockG_ok SpecsOK.nil
  refine q_of mixed hS Try.func20 rfl rfl fun args blks K h => ?_
  split at h
  · rename_i key nonce n s
    rw [ob_iff, bc_iff] at h
    obtain ⟨hn, hb, hg⟩ := h
    simp only [Bool.and_eq_true, decide_eq_true_eq] at hn
    by_cases hk : badKey key nonce = true
    · refine ⟨_, rfl, hb hk, rfl, (fun id st => match id with
  | 0 => .inv ((s.size + 63) / 64) fun k => { st with env := (11, .v (.int .i64 (64 * (k : Int)))) :: keep st.env [0, 1, 2, 8, 9, 10], tbl := st.tbl.set 0 (.ints true .u8 (xoutF (initF key nonce n) (bytesL s) k)) }
  | _ => .inv 64 fun j => { st with env := (14, inat j) :: keep st.env [0, 1, 2, 8, 9, 10, 11, 12, 13], tbl := st.tbl.set 0 (.ints true .u8 (xinF (sbytes (sv st 12)) (nv (sv st 11)) (gi st 0) j)) }), ?_⟩
      have hb := badKey_true hk
      rw [rxor_vf]
      refine bc_mk (fun _ => ⟨rfl, ⟨rfl, rfl⟩, rfl⟩) (fun h1 => bc_mk (fun _ => ⟨rfl, ⟨rfl, rfl⟩, rfl⟩) (fun h2 => ?_))
      exfalso
      simp at h1 h2
      exact hb (by omega) (by omega)
    · rw [Bool.not_eq_true] at hk
      refine ⟨_, rfl, hg hk, rfl, (fun id st => match id with
  | 0 => .inv ((s.size + 63) / 64) fun k => { st with env := (11, .v (.int .i64 (64 * (k : Int)))) :: keep st.env [0, 1, 2, 8, 9, 10], tbl := st.tbl.set 0 (.ints true .u8 (xoutF (initF key nonce n) (bytesL s) k)) }
  | _ => .inv 64 fun j => { st with env := (14, inat j) :: keep st.env [0, 1, 2, 8, 9, 10, 11, 12, 13], tbl := st.tbl.set 0 (.ints true .u8 (xinF (sbytes (sv st 12)) (nv (sv st 11)) (gi st 0) j)) }), ?_⟩
      obtain ⟨h1, h2⟩ := badKey_false hk
      rw [rxor_vf]
      refine bc_mk (fun h3 => ?_) (fun _ => bc_mk (fun h3 => ?_) (fun _ => ?_))
      · exfalso; simp at h3; omega
      · exfalso; simp at h3; omega
      have hxl : (bytesL s).length = s.size := bytesL_len s
      have hx0 : xoutF (initF key nonce n) (bytesL s) 0 = bytesL s := by rw [xoutF]
      have hnx := nextsF_init key nonce n hn.1.1 hn.1.2
      have hbf := blockF_eq key nonce
      have hF : ∀ N, N = (s.size + 63) / 64 → xorF key nonce n s = bstr (xoutF (initF key nonce n) (bytesL s) N) := fun N h => by rw [h, xorF]
      generalize bytesL s = b at *
      (repeat (first | (with_reducible refine ob_true ?_) | refine ob_mk (by first | (with_reducible exact beq_self_eq_true _) | (with_reducible exact nbeq _) | (with_reducible exact nble _) | (with_reducible exact seq_rfl _) | (with_reducible assumption) | (simp only [decide_eq_true_eq, Bool.and_eq_true, beq_iff_eq, Bool.true_and, Bool.and_true, Nat.beq_eq, Nat.ble_eq, true_and, and_true, ge_iff_le, gt_iff_lt, hx0]; first | done | omega)) ?_))
      intro k hkN
      have hol : (xoutF (initF key nonce n) b k).length = s.size := (xoutF_len _ b k).trans hxl
      have hnv : nv (SV.v (Value.int IntKind.i64 (64 * (k : Int)))) = 64 * k := by rw [nv_int]; omega
      refine bc_mk (fun hlt => ?_) (fun hge => ?_)
      · have hlt := of_decide_eq_true hlt
        have wn : IntKind.u32.wrap (n + IntKind.u32.wrap (IntKind.i64.wrap ((64 * (k : Int)).tdiv 64))) = IntKind.u32.wrap (n + (k : Int)) := by
          have d : (64 * (k : Int)).tdiv 64 = k := by rw [Int.mul_comm]; exact Int.mul_tdiv_cancel _ (by decide)
          rw [d, wrap_i64 _ (by omega) (by omega), wrap_u32, wrap_u32, wrap_u32]; omega
        have hbf := hbf (IntKind.u32.wrap (n + (k : Int)))
        rw [← hnx k] at hbf
        have hxo : xoutF (initF key nonce n) b (k + 1) = xinF (bytesF (nextsF (initF key nonce n) k)) (64 * k) (xoutF (initF key nonce n) b k) 64 := by rw [xoutF]
        have hbl : (bytesF (nextsF (initF key nonce n) k)).length = 64 := bytesF_len _
        have hbr := bytesF_range (nextsF (initF key nonce n) k)
        rw [wn, hnv]
        generalize blockF key nonce (IntKind.u32.wrap (n + (k : Int))) = B at *
        generalize bytesF (nextsF (initF key nonce n) k) = ks at *
        have hks : sbytes (SV.v (Value.string B)) = ks := by rw [sbytes_str, hbf, bytesL_bstr hbr]
        have hbt : ∀ j : Nat, bt B j = ks.getD j 0 := fun j => by rw [bt_bytesL, hbf, bytesL_bstr hbr]
        have hBs : B.size = 64 := by rw [hbf, bstr_size, hbl]
        rw [hks]
        clear hbf wn hnx
        generalize xoutF (initF key nonce n) b (k + 1) = o' at *
        generalize xoutF (initF key nonce n) b k = o at *
        have hi0 : xinF ks (64 * k) o 0 = o := by rw [xinF]
        (repeat (first | (with_reducible refine ob_true ?_) | refine ob_mk (by first | (with_reducible exact beq_self_eq_true _) | (with_reducible exact nbeq _) | (with_reducible exact nble _) | (with_reducible exact seq_rfl _) | (with_reducible assumption) | (simp only [decide_eq_true_eq, Bool.and_eq_true, beq_iff_eq, Bool.true_and, Bool.and_true, Nat.beq_eq, Nat.ble_eq, true_and, and_true, ge_iff_le, gt_iff_lt, hi0, hk, Bool.not_false]; first | done | omega)) ?_))
        intro j hj
        have hjl : (xinF ks (64 * k) o j).length = s.size := (xinF_len _ _ _ j).trans hol
        have hjs : xinF ks (64 * k) o (j + 1) = if 64 * k + j < o.length then (xinF ks (64 * k) o j).set (64 * k + j) (ixor .u8 ((xinF ks (64 * k) o j).getD (64 * k + j) 0) (ks.getD j 0)) else xinF ks (64 * k) o j := by rw [xinF]
        have hj64 : s.size ≤ 64 * k + j ∨ j = 64 → o' = xinF ks (64 * k) o j := fun h => by
          rcases h with h | h
          · rw [hxo, ← xinF_stable ks (64 * k) o j (by omega) (64 - j), show j + (64 - j) = 64 by omega]
          · rw [h, hxo]
        generalize xinF ks (64 * k) o (j + 1) = o1 at *
        generalize xinF ks (64 * k) o j = oj at *
        have w1 : IntKind.i64.wrap (64 * (k : Int) + (j : Int)) = ((64 * k + j : Nat) : Int) := by rw [wrap_i64 _ (by omega) (by omega)]; omega
        have w2 : IntKind.i64.wrap ((j : Int) + 1) = ((j + 1 : Nat) : Int) := by rw [wrap_i64 _ (by omega) (by omega)]; omega
        have w3 : IntKind.i64.wrap (64 * (k : Int) + 64) = 64 * ((k + 1 : Nat) : Int) := by rw [wrap_i64 _ (by omega) (by omega)]; omega
        rw [w1, w2, w3]
        simp only [Int.toNat_natCast, Nat.zero_add, Nat.mul_one, cond_true, hbt]
        refine bc_mk (fun hlt2 => ?_) (fun hge2 => ?_)
        · have hlt2 := of_decide_eq_true hlt2
          refine bc_mk (fun hlt3 => ?_) (fun hge3 => ?_)
          · have hlt3 := of_decide_eq_true hlt3
            rw [if_pos (by omega)] at hjs
            rw [hjs]
            (repeat (first | (with_reducible refine ob_true ?_) | refine ob_mk (by first | (with_reducible exact beq_self_eq_true _) | (with_reducible exact nbeq _) | (with_reducible exact nble _) | (with_reducible exact seq_rfl _) | (with_reducible assumption) | (simp only [decide_eq_true_eq, Bool.and_eq_true, beq_iff_eq, Bool.true_and, Bool.and_true, Nat.beq_eq, Nat.ble_eq, true_and, and_true, ge_iff_le, gt_iff_lt, hjl, hBs]; first | done | omega)) ?_))
            refine ⟨by omega, ?_⟩
            (repeat (first | (with_reducible refine ob_true ?_) | refine ob_mk (by first | (with_reducible exact beq_self_eq_true _) | (with_reducible exact nbeq _) | (with_reducible exact nble _) | (with_reducible exact seq_rfl _) | (with_reducible assumption) | (simp only [decide_eq_true_eq, Bool.and_eq_true, beq_iff_eq, Bool.true_and, Bool.and_true, Nat.beq_eq, Nat.ble_eq, true_and, and_true, ge_iff_le, gt_iff_lt, hjl]; first | done | omega)) ?_))
            trivial
          · have hge3 := of_decide_eq_false hge3
            have hj64 := hj64 (Or.inl (by omega))
            rw [hj64]
            refine ⟨by omega, ?_⟩
            (repeat (first | (with_reducible refine ob_true ?_) | refine ob_mk (by first | (with_reducible exact beq_self_eq_true _) | (with_reducible exact nbeq _) | (with_reducible exact nble _) | (with_reducible exact seq_rfl _) | (with_reducible assumption) | (simp only [decide_eq_true_eq, Bool.and_eq_true, beq_iff_eq, Bool.true_and, Bool.and_true, Nat.beq_eq, Nat.ble_eq, true_and, and_true, ge_iff_le, gt_iff_lt]; first | done | omega)) ?_))
            trivial
        · have hge2 := of_decide_eq_false hge2
          have hj64 := hj64 (Or.inr (by omega))
          rw [hj64]
          refine ⟨by omega, ?_⟩
          (repeat (first | (with_reducible refine ob_true ?_) | refine ob_mk (by first | (with_reducible exact beq_self_eq_true _) | (with_reducible exact nbeq _) | (with_reducible exact nble _) | (with_reducible exact seq_rfl _) | (with_reducible assumption) | (simp only [decide_eq_true_eq, Bool.and_eq_true, beq_iff_eq, Bool.true_and, Bool.and_true, Nat.beq_eq, Nat.ble_eq, true_and, and_true, ge_iff_le, gt_iff_lt]; first | done | omega)) ?_))
          trivial
      · have hge := of_decide_eq_false hge
        have hF := hF k (by omega)
        (repeat (first | (with_reducible refine ob_true ?_) | refine ob_mk (by first | (with_reducible exact beq_self_eq_true _) | (with_reducible exact nbeq _) | (with_reducible exact nble _) | (with_reducible exact seq_rfl _) | (with_reducible assumption) | (simp only [decide_eq_true_eq, Bool.and_eq_true, beq_iff_eq, Bool.true_and, Bool.and_true, Nat.beq_eq, Nat.ble_eq, true_and, and_true, ge_iff_le, gt_iff_lt, hol]; first | done | omega)) ?_))
        refine ⟨?_, (by repeat' (first | exact trivial | exact rfl | apply And.intro | (intro h; exact h)))⟩
        rw [hF, List.drop_zero, List.take_of_length_le (by omega)]
  · exact h.elim

end Go.Proofs.Ytinmllbkdjceaaa.Sx
