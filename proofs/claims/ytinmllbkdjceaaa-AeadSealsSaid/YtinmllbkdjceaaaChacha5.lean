/- ChaCha20: texts xored. No condition. -/
import Derived.Test.YtinmllbkdjceaaaSx11
import Derived.Test.YtinmllbkdjceaaaProg
import Derived.Test.YtinmllbkdjceaaaBits
import Derived.Test.YtinmllbkdjceaaaChacha1
import Derived.Test.YtinmllbkdjceaaaChacha2
import Derived.Test.YtinmllbkdjceaaaChacha3
import Derived.Test.YtinmllbkdjceaaaChacha4
namespace Go.Proofs.Ytinmllbkdjceaaa.Sx
open Go Go.Proofs
set_option maxRecDepth 100000
set_option linter.unusedSimpArgs false
set_option linter.unusedVariables false

/-- The state of the k-th block behind. -/
def nextsF (l : List Int) : Nat → List Int
  | 0 => l
  | k + 1 => nextF (nextsF l k)
/-- So many bytes of a block xored into a text from 'at' on. -/
def xinF (ks : List Int) (a : Nat) (b : List Int) : Nat → List Int
  | 0 => b
  | j + 1 => if a + j < b.length then (xinF ks a b j).set (a + j) (ixor .u8 ((xinF ks a b j).getD (a + j) 0) (ks.getD j 0)) else xinF ks a b j
/-- So many blocks. -/
def xoutF (l b : List Int) : Nat → List Int
  | 0 => b
  | k + 1 => xinF (bytesF (nextsF l k)) (64 * k) (xoutF l b k) 64
def xorF (key nonce : ByteArray) (n : Int) (s : ByteArray) : ByteArray := bstr (xoutF (initF key nonce n) (bytesL s) ((s.size + 63) / 64))
def xorS : Spec := .q fun args blks K => match args, blks with
  | [.v (.string key), .v (.string nonce), .v (.int .u32 n), .v (.string s)], [] => ob (decide (0 ≤ n) && decide (n < 4294967296) && decide (s.size ≤ 100000)) (bc (badKey key nonce)
      (K (.tup [.v (.string ⟨#[]⟩), .v (.int .i64 2)]))
      (K (.tup [.v (.string (xorF key nonce n s)), .v (.int .i64 0)])))
  | _, _ => False
theorem xor_vf (key nonce : ByteArray) (n : Int) (s : ByteArray) (K : SV → List Blk → List Nat → Prop) : vf Try.prog [(33, newS), (34, bytesS), (38, nextS)] (fun id st => match id with
  | 0 => .inv ((s.size + 63) / 64) fun k => { st with env := (13, .v (.int .i64 (64 * (k : Int)))) :: keep st.env [8, 9, 10, 12], tbl := (st.tbl.set 0 (.ints true .u32 (nextsF (initF key nonce n) k))).set 1 (.ints true .u8 (xoutF (initF key nonce n) (bytesL s) k)) }
  | _ => .inv 64 fun j => { st with env := (36, inat j) :: keep st.env [8, 9, 10, 12, 13, 35], tbl := st.tbl.set 1 (.ints true .u8 (xinF (gv st 35) (nv (sv st 13)) (gi st 1) j)) }) Try.f19 [.v (.string key), .v (.string nonce), .v (.int .u32 n), .v (.string s)] [] K =
  (bc (badKey key nonce) (K (SV.tup [SV.v (Value.string { data := { toList := [] } }), SV.v (Value.int IntKind.i64 2)]) [Blk.ints true IntKind.u32 [0, 0, 0, 0, 0, 0, 0, 0, 0, 0, 0, 0, 0, 0, 0, 0]] []) (ob ((initF key nonce n).length.beq 16) (ob (s.size.beq s.size) (ob (s.size.ble s.size) (ob (s.size.ble s.size) (ob (initF key nonce n == nextsF (initF key nonce n) 0) (ob (bytesL s == xoutF (initF key nonce n) (bytesL s) 0) (∀ (k : Nat), k ≤ (s.size + 63) / 64 → bc (decide (64 * (↑k : Int) < (↑s.size : Int))) (ob (decide ((nextsF (initF key nonce n) k).length = 16)) (ob (decide ((nextsF (initF key nonce n) k).length = 16)) (ob (s.size.beq s.size) (ob (s.size.ble s.size) (ob (s.size.ble s.size) (ob (64 * (↑k : Int) == 64 * (↑k : Int)) (ob (bytesF (nextsF (initF key nonce n) k) == bytesF (nextsF (initF key nonce n) k)) (ob (nextsF (initF key nonce n) k == nextsF (initF key nonce n) k) (ob (xoutF (initF key nonce n) (bytesL s) k == xinF (bytesF (nextsF (initF key nonce n) k)) (nv (SV.v (Value.int IntKind.i64 (64 * (↑k : Int))))) (xoutF (initF key nonce n) (bytesL s) k) 0) (∀ (k_1 : Nat), k_1 ≤ 64 → bc (decide ((↑k_1 : Int) < 64)) (ob (true && decide ((↑k_1 : Int) < 64)) (ob (decide ((↑k_1 : Int).toNat * 1 < (bytesF (nextsF (initF key nonce n) k)).length)) (bc (decide (IntKind.i64.wrap (64 * (↑k : Int) + (↑k_1 : Int)) < (↑s.size : Int))) (ob (decide (0 ≤ IntKind.i64.wrap (64 * (↑k : Int) + (↑k_1 : Int))) && decide (IntKind.i64.wrap (64 * (↑k : Int) + (↑k_1 : Int)) < (↑s.size : Int))) (ob (decide (0 + (IntKind.i64.wrap (64 * (↑k : Int) + (↑k_1 : Int))).toNat * 1 < (xinF (bytesF (nextsF (initF key nonce n) k)) (nv (SV.v (Value.int IntKind.i64 (64 * (↑k : Int))))) (xoutF (initF key nonce n) (bytesL s) k) k_1).length)) (ob (decide (0 ≤ IntKind.i64.wrap (64 * (↑k : Int) + (↑k_1 : Int))) && decide (IntKind.i64.wrap (64 * (↑k : Int) + (↑k_1 : Int)) < (↑s.size : Int))) (ob (decide (0 + (IntKind.i64.wrap (64 * (↑k : Int) + (↑k_1 : Int))).toNat * 1 < (xinF (bytesF (nextsF (initF key nonce n) k)) (nv (SV.v (Value.int IntKind.i64 (64 * (↑k : Int))))) (xoutF (initF key nonce n) (bytesL s) k) k_1).length)) (k_1 < 64 ∧ ob (IntKind.i64.wrap ((↑k_1 : Int) + 1) == (↑(k_1 + 1) : Int)) (ob (s.size.beq s.size) (ob (s.size.ble s.size) (ob (s.size.ble s.size) (ob (64 * (↑k : Int) == 64 * (↑k : Int)) (ob (bytesF (nextsF (initF key nonce n) k) == bytesF (nextsF (initF key nonce n) k)) (ob (nextsF (initF key nonce n) k == nextsF (initF key nonce n) k) (ob ((xinF (bytesF (nextsF (initF key nonce n) k)) (nv (SV.v (Value.int IntKind.i64 (64 * (↑k : Int))))) (xoutF (initF key nonce n) (bytesL s) k) k_1).set (0 + (IntKind.i64.wrap (64 * (↑k : Int) + (↑k_1 : Int))).toNat * 1) (ixor IntKind.u8 ((xinF (bytesF (nextsF (initF key nonce n) k)) (nv (SV.v (Value.int IntKind.i64 (64 * (↑k : Int))))) (xoutF (initF key nonce n) (bytesL s) k) k_1).getD (0 + (IntKind.i64.wrap (64 * (↑k : Int) + (↑k_1 : Int))).toNat * 1) 0) ((bytesF (nextsF (initF key nonce n) k)).getD ((↑k_1 : Int).toNat * 1) 0)) == xinF (bytesF (nextsF (initF key nonce n) k)) (nv (SV.v (Value.int IntKind.i64 (64 * (↑k : Int))))) (xoutF (initF key nonce n) (bytesL s) k) (k_1 + 1)) True)))))))))))) (k_1 < 64 ∧ ob (IntKind.i64.wrap ((↑k_1 : Int) + 1) == (↑(k_1 + 1) : Int)) (ob (s.size.beq s.size) (ob (s.size.ble s.size) (ob (s.size.ble s.size) (ob (64 * (↑k : Int) == 64 * (↑k : Int)) (ob (bytesF (nextsF (initF key nonce n) k) == bytesF (nextsF (initF key nonce n) k)) (ob (nextsF (initF key nonce n) k == nextsF (initF key nonce n) k) (ob (xinF (bytesF (nextsF (initF key nonce n) k)) (nv (SV.v (Value.int IntKind.i64 (64 * (↑k : Int))))) (xoutF (initF key nonce n) (bytesL s) k) k_1 == xinF (bytesF (nextsF (initF key nonce n) k)) (nv (SV.v (Value.int IntKind.i64 (64 * (↑k : Int))))) (xoutF (initF key nonce n) (bytesL s) k) (k_1 + 1)) True))))))))))) (ob (decide ((nextsF (initF key nonce n) k).length = 16)) (ob (decide ((nextsF (initF key nonce n) k).length = 16)) (ob (decide ((nextF (nextsF (initF key nonce n) k)).length = 16)) (ob (decide ((nextsF (initF key nonce n) k).length = 16)) (k < (s.size + 63) / 64 ∧ ob (IntKind.i64.wrap (64 * (↑k : Int) + 64) == 64 * (↑(k + 1) : Int)) (ob (s.size.beq s.size) (ob (s.size.ble s.size) (ob (s.size.ble s.size) (ob (nextF (nextsF (initF key nonce n) k) == nextsF (initF key nonce n) (k + 1)) (ob (xinF (bytesF (nextsF (initF key nonce n) k)) (nv (SV.v (Value.int IntKind.i64 (64 * (↑k : Int))))) (xoutF (initF key nonce n) (bytesL s) k) k_1 == xoutF (initF key nonce n) (bytesL s) (k + 1)) True)))))))))))))))))))) (ob (decide (0 + s.size ≤ (xoutF (initF key nonce n) (bytesL s) k).length)) (K (SV.tup [SV.v (Value.string (bstr (List.take s.size (List.drop 0 (xoutF (initF key nonce n) (bytesL s) k))))), SV.v (Value.int IntKind.i64 0)]) [Blk.ints true IntKind.u32 (nextsF (initF key nonce n) k), Blk.ints true IntKind.u8 (xoutF (initF key nonce n) (bytesL s) k)] [])))))))))) := by kernel_rfl
theorem nextF_len (l : List Int) : (nextF l).length = l.length := by rw [nextF, List.length_set]
theorem nextsF_len (l : List Int) : ∀ k, (nextsF l k).length = l.length
  | 0 => by rw [nextsF]
  | k + 1 => by rw [nextsF, nextF_len, nextsF_len l k]
theorem xinF_len (ks : List Int) (a : Nat) (b : List Int) : ∀ j, (xinF ks a b j).length = b.length
  | 0 => by rw [xinF]
  | j + 1 => by
    rw [xinF]
    split
    · rw [List.length_set, xinF_len ks a b j]
    · exact xinF_len ks a b j
theorem xoutF_len (l b : List Int) : ∀ k, (xoutF l b k).length = b.length
  | 0 => by rw [xoutF]
  | k + 1 => by rw [xoutF, xinF_len, xoutF_len l b k]
theorem xor_ok : SpecOK Try.prog 19 xorS := by
  have hS : SpecsOK Try.prog [(33, newS), (34, bytesS), (38, nextS)] := SpecsOK.cons new_ok (SpecsOK.cons bytes_ok (SpecsOK.cons next_ok SpecsOK.nil))
  refine q_of mixed hS Try.func19 rfl rfl fun args blks K h => ?_
  split at h
  · rename_i key nonce n s
    rw [ob_iff, bc_iff] at h
    obtain ⟨hn, hb, hg⟩ := h
    simp only [Bool.and_eq_true, decide_eq_true_eq] at hn
    by_cases hk : badKey key nonce = true
    · refine ⟨_, rfl, hb hk, rfl, (fun id st => match id with
  | 0 => .inv ((s.size + 63) / 64) fun k => { st with env := (13, .v (.int .i64 (64 * (k : Int)))) :: keep st.env [8, 9, 10, 12], tbl := (st.tbl.set 0 (.ints true .u32 (nextsF (initF key nonce n) k))).set 1 (.ints true .u8 (xoutF (initF key nonce n) (bytesL s) k)) }
  | _ => .inv 64 fun j => { st with env := (36, inat j) :: keep st.env [8, 9, 10, 12, 13, 35], tbl := st.tbl.set 1 (.ints true .u8 (xinF (gv st 35) (nv (sv st 13)) (gi st 1) j)) }), ?_⟩
      rw [xor_vf]
      refine bc_mk (fun _ => ⟨rfl, ⟨rfl, rfl⟩, rfl⟩) (fun h => absurd (h.symm.trans hk) (by decide))
    · rw [Bool.not_eq_true] at hk
      refine ⟨_, rfl, hg hk, rfl, (fun id st => match id with
  | 0 => .inv ((s.size + 63) / 64) fun k => { st with env := (13, .v (.int .i64 (64 * (k : Int)))) :: keep st.env [8, 9, 10, 12], tbl := (st.tbl.set 0 (.ints true .u32 (nextsF (initF key nonce n) k))).set 1 (.ints true .u8 (xoutF (initF key nonce n) (bytesL s) k)) }
  | _ => .inv 64 fun j => { st with env := (36, inat j) :: keep st.env [8, 9, 10, 12, 13, 35], tbl := st.tbl.set 1 (.ints true .u8 (xinF (gv st 35) (nv (sv st 13)) (gi st 1) j)) }), ?_⟩
      rw [xor_vf]
      refine bc_mk (fun h => absurd (h.symm.trans hk) (by decide)) (fun _ => ?_)
      have hl : (initF key nonce n).length = 16 := initF_len key nonce n
      have hxl : (bytesL s).length = s.size := bytesL_len s
      have hx0 : xoutF (initF key nonce n) (bytesL s) 0 = bytesL s := by rw [xoutF]
      have hn0 : nextsF (initF key nonce n) 0 = initF key nonce n := by rw [nextsF]
      have hF : ∀ N, N = (s.size + 63) / 64 → xorF key nonce n s = bstr (xoutF (initF key nonce n) (bytesL s) N) := fun N h => by rw [h, xorF]
      generalize initF key nonce n = l at *
      generalize bytesL s = b at *
      (repeat (first | (with_reducible refine ob_true ?_) | refine ob_mk (by first | (with_reducible exact beq_self_eq_true _) | (with_reducible exact nbeq _) | (with_reducible exact nble _) | (with_reducible exact seq_rfl _) | (with_reducible assumption) | (simp only [decide_eq_true_eq, Bool.and_eq_true, beq_iff_eq, Bool.true_and, Bool.and_true, Nat.beq_eq, Nat.ble_eq, true_and, and_true, ge_iff_le, gt_iff_lt, hl, hx0, hn0]; first | done | omega)) ?_))
      intro k hk
      have hnl : (nextsF l k).length = 16 := (nextsF_len l k).trans hl
      have hnx : nextsF l (k + 1) = nextF (nextsF l k) := by rw [nextsF]
      have hnxl : (nextF (nextsF l k)).length = 16 := (nextF_len _).trans hnl
      have hxo : xoutF l b (k + 1) = xinF (bytesF (nextsF l k)) (64 * k) (xoutF l b k) 64 := by rw [xoutF]
      have hbl : (bytesF (nextsF l k)).length = 64 := bytesF_len _
      have hol : (xoutF l b k).length = s.size := (xoutF_len l b k).trans hxl
      have hnv : nv (SV.v (Value.int IntKind.i64 (64 * (k : Int)))) = 64 * k := by rw [nv_int]; omega
      refine bc_mk (fun hlt => ?_) (fun hge => ?_)
      · have hlt := of_decide_eq_true hlt
        rw [hnv]
        generalize nextsF l (k + 1) = l'' at *
        generalize xoutF l b (k + 1) = o' at *
        generalize nextsF l k = l' at *
        generalize xoutF l b k = o at *
        generalize bytesF l' = ks at *
        have hi0 : xinF ks (64 * k) o 0 = o := by rw [xinF]
        (repeat (first | (with_reducible refine ob_true ?_) | refine ob_mk (by first | (with_reducible exact beq_self_eq_true _) | (with_reducible exact nbeq _) | (with_reducible exact nble _) | (with_reducible exact seq_rfl _) | (with_reducible assumption) | (simp only [decide_eq_true_eq, Bool.and_eq_true, beq_iff_eq, Bool.true_and, Bool.and_true, Nat.beq_eq, Nat.ble_eq, true_and, and_true, ge_iff_le, gt_iff_lt, hnl, hi0]; first | done | omega)) ?_))
        intro j hj
        have hjl : (xinF ks (64 * k) o j).length = s.size := (xinF_len _ _ _ j).trans hol
        have hjs : xinF ks (64 * k) o (j + 1) = if 64 * k + j < o.length then (xinF ks (64 * k) o j).set (64 * k + j) (ixor .u8 ((xinF ks (64 * k) o j).getD (64 * k + j) 0) (ks.getD j 0)) else xinF ks (64 * k) o j := by rw [xinF]
        have hj64 : j = 64 → o' = xinF ks (64 * k) o j := fun h => by rw [h, hxo]
        generalize xinF ks (64 * k) o (j + 1) = o1 at *
        generalize xinF ks (64 * k) o j = oj at *
        have w1 : IntKind.i64.wrap (64 * (k : Int) + (j : Int)) = ((64 * k + j : Nat) : Int) := by rw [wrap_i64 _ (by omega) (by omega)]; omega
        have w2 : IntKind.i64.wrap ((j : Int) + 1) = ((j + 1 : Nat) : Int) := by rw [wrap_i64 _ (by omega) (by omega)]; omega
        rw [w1, w2]
        simp only [Int.toNat_natCast, Nat.zero_add, Nat.mul_one]
        refine bc_mk (fun hlt2 => ?_) (fun hge2 => ?_)
        · have hlt2 := of_decide_eq_true hlt2
          (repeat (first | (with_reducible refine ob_true ?_) | refine ob_mk (by first | (with_reducible exact beq_self_eq_true _) | (with_reducible exact nbeq _) | (with_reducible exact nble _) | (with_reducible exact seq_rfl _) | (with_reducible assumption) | (simp only [decide_eq_true_eq, Bool.and_eq_true, beq_iff_eq, Bool.true_and, Bool.and_true, Nat.beq_eq, Nat.ble_eq, true_and, and_true, ge_iff_le, gt_iff_lt, hbl]; first | done | omega)) ?_))
          refine bc_mk (fun hlt3 => ?_) (fun hge3 => ?_)
          · have hlt3 := of_decide_eq_true hlt3
            rw [if_pos (by omega)] at hjs
            rw [hjs]
            (repeat (first | (with_reducible refine ob_true ?_) | refine ob_mk (by first | (with_reducible exact beq_self_eq_true _) | (with_reducible exact nbeq _) | (with_reducible exact nble _) | (with_reducible exact seq_rfl _) | (with_reducible assumption) | (simp only [decide_eq_true_eq, Bool.and_eq_true, beq_iff_eq, Bool.true_and, Bool.and_true, Nat.beq_eq, Nat.ble_eq, true_and, and_true, ge_iff_le, gt_iff_lt, hjl]; first | done | omega)) ?_))
            refine ⟨by omega, ?_⟩
            (repeat (first | (with_reducible refine ob_true ?_) | refine ob_mk (by first | (with_reducible exact beq_self_eq_true _) | (with_reducible exact nbeq _) | (with_reducible exact nble _) | (with_reducible exact seq_rfl _) | (with_reducible assumption) | (simp only [decide_eq_true_eq, Bool.and_eq_true, beq_iff_eq, Bool.true_and, Bool.and_true, Nat.beq_eq, Nat.ble_eq, true_and, and_true, ge_iff_le, gt_iff_lt, hjl]; first | done | omega)) ?_))
            trivial
          · have hge3 := of_decide_eq_false hge3
            rw [if_neg (by omega)] at hjs
            rw [hjs]
            refine ⟨by omega, ?_⟩
            (repeat (first | (with_reducible refine ob_true ?_) | refine ob_mk (by first | (with_reducible exact beq_self_eq_true _) | (with_reducible exact nbeq _) | (with_reducible exact nble _) | (with_reducible exact seq_rfl _) | (with_reducible assumption) | (simp only [decide_eq_true_eq, Bool.and_eq_true, beq_iff_eq, Bool.true_and, Bool.and_true, Nat.beq_eq, Nat.ble_eq, true_and, and_true, ge_iff_le, gt_iff_lt, hjl]; first | done | omega)) ?_))
            trivial
        · have hge2 := of_decide_eq_false hge2
          have hj64 := hj64 (by omega)
          rw [hnx, hj64]
          (repeat (first | (with_reducible refine ob_true ?_) | refine ob_mk (by first | (with_reducible exact beq_self_eq_true _) | (with_reducible exact nbeq _) | (with_reducible exact nble _) | (with_reducible exact seq_rfl _) | (with_reducible assumption) | (simp only [decide_eq_true_eq, Bool.and_eq_true, beq_iff_eq, Bool.true_and, Bool.and_true, Nat.beq_eq, Nat.ble_eq, true_and, and_true, ge_iff_le, gt_iff_lt, hnl, hnxl]; first | done | omega)) ?_))
          refine ⟨by omega, ?_⟩
          have w3 : IntKind.i64.wrap (64 * (k : Int) + 64) = 64 * ((k + 1 : Nat) : Int) := by rw [wrap_i64 _ (by omega) (by omega)]; omega
          rw [w3]
          (repeat (first | (with_reducible refine ob_true ?_) | refine ob_mk (by first | (with_reducible exact beq_self_eq_true _) | (with_reducible exact nbeq _) | (with_reducible exact nble _) | (with_reducible exact seq_rfl _) | (with_reducible assumption) | (simp only [decide_eq_true_eq, Bool.and_eq_true, beq_iff_eq, Bool.true_and, Bool.and_true, Nat.beq_eq, Nat.ble_eq, true_and, and_true, ge_iff_le, gt_iff_lt, hnl, hnxl]; first | done | omega)) ?_))
          trivial
      · have hge := of_decide_eq_false hge
        have hF := hF k (by omega)
        (repeat (first | (with_reducible refine ob_true ?_) | refine ob_mk (by first | (with_reducible exact beq_self_eq_true _) | (with_reducible exact nbeq _) | (with_reducible exact nble _) | (with_reducible exact seq_rfl _) | (with_reducible assumption) | (simp only [decide_eq_true_eq, Bool.and_eq_true, beq_iff_eq, Bool.true_and, Bool.and_true, Nat.beq_eq, Nat.ble_eq, true_and, and_true, ge_iff_le, gt_iff_lt, hol]; first | done | omega)) ?_))
        refine ⟨?_, (by repeat' (first | exact trivial | exact rfl | apply And.intro | (intro h; exact h)))⟩
        rw [hF, List.drop_zero, List.take_of_length_le (by omega)]
  · exact h.elim

end Go.Proofs.Ytinmllbkdjceaaa.Sx
