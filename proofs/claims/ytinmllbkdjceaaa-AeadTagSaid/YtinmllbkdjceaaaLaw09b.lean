/- What the texts xored with blocks are, number by number. No condition. -/
import Derived.Test.YtinmllbkdjceaaaSx11
import Derived.Test.YtinmllbkdjceaaaProg
import Derived.Test.YtinmllbkdjceaaaBits
import Derived.Test.YtinmllbkdjceaaaChacha1
import Derived.Test.YtinmllbkdjceaaaChacha2
import Derived.Test.YtinmllbkdjceaaaChacha3
import Derived.Test.YtinmllbkdjceaaaChacha4
import Derived.Test.YtinmllbkdjceaaaChacha5
import Derived.Test.YtinmllbkdjceaaaChacha6
import Derived.Test.YtinmllbkdjceaaaLaw09
namespace Go.Proofs.Ytinmllbkdjceaaa.Sx
open Go Go.Proofs
set_option maxRecDepth 100000
set_option linter.unusedSimpArgs false
set_option linter.unusedVariables false

theorem xinF_get (ks : List Int) (a : Nat) (b : List Int) : ∀ j i : Nat, i < b.length → (xinF ks a b j).getD i 0 = if a ≤ i ∧ i < a + j then ixor .u8 (b.getD i 0) (ks.getD (i - a) 0) else b.getD i 0
  | 0, i, hi => by rw [xinF, if_neg (by omega)]
  | j + 1, i, hi => by
    have ih := xinF_get ks a b j
    have hl := xinF_len ks a b j
    rw [xinF]
    split
    · rename_i hlt
      by_cases e : i = a + j
      · subst e
        rw [if_pos (by omega), List.getD_eq_getElem?_getD, List.getElem?_set_self (by omega), Option.getD_some, ih _ hi, if_neg (by omega), Nat.add_sub_cancel_left]
      · rw [List.getD_eq_getElem?_getD, List.getElem?_set_ne (by omega), ← List.getD_eq_getElem?_getD, ih i hi]
        by_cases c : a ≤ i ∧ i < a + j
        · rw [if_pos c, if_pos (by omega)]
        · rw [if_neg c, if_neg (by omega)]
    · rw [ih i hi]
      by_cases c : a ≤ i ∧ i < a + j
      · rw [if_pos c, if_pos (by omega)]
      · rw [if_neg c, if_neg (by omega)]
/-- The i-th number that is xored. -/
def ksF (l : List Int) (i : Nat) : Int := (bytesF (nextsF l (i / 64))).getD (i % 64) 0
theorem xoutF_get (l b : List Int) : ∀ k i : Nat, i < b.length → (xoutF l b k).getD i 0 = if i < 64 * k then ixor .u8 (b.getD i 0) (ksF l i) else b.getD i 0
  | 0, i, hi => by rw [xoutF, if_neg (by omega)]
  | k + 1, i, hi => by
    have hl := xoutF_len l b k
    rw [xoutF, xinF_get _ _ _ _ _ (by omega), xoutF_get l b k i hi]
    by_cases c : 64 * k ≤ i ∧ i < 64 * k + 64
    · rw [if_pos c, if_neg (by omega), if_pos (by omega), ksF, show i / 64 = k by omega, show i % 64 = i - 64 * k by omega]
    · rw [if_neg c]
      by_cases c2 : i < 64 * k
      · rw [if_pos c2, if_pos (by omega)]
      · rw [if_neg c2, if_neg (by omega)]
theorem xoutF_eq (l b : List Int) (k : Nat) (h : b.length ≤ 64 * k) : xoutF l b k = b.mapIdx fun i x => ixor .u8 x (ksF l i) := by
  apply List.ext_getElem
  · rw [xoutF_len, List.length_mapIdx]
  · intro i h1 h2
    rw [xoutF_len] at h1
    have g := xoutF_get l b k i h1
    rw [if_pos (by omega)] at g
    rw [List.getElem_mapIdx]
    rw [List.getD_eq_getElem?_getD, List.getD_eq_getElem?_getD, List.getElem?_eq_getElem (by rw [xoutF_len]; exact h1), List.getElem?_eq_getElem h1] at g
    exact g
theorem ixor_range (x y : Int) : 0 ≤ ixor .u8 x y ∧ ixor .u8 x y < 256 := by
  unfold ixor; rw [wrap_u8]; omega
theorem ixor_twice (x y : Int) (h0 : 0 ≤ x) (h1 : x < 256) : ixor .u8 (ixor .u8 x y) y = x := by
  have e : ∀ v : BitVec 8, BitVec.ofInt 8 ((v.toNat : Int) % 256) = v := fun v => by
    apply BitVec.eq_of_toNat_eq
    have := v.isLt
    rw [BitVec.toNat_ofInt]
    omega
  unfold ixor
  rw [wrap_u8, wrap_u8]
  show ((BitVec.ofInt 8 ((((BitVec.ofInt 8 x ^^^ BitVec.ofInt 8 y).toNat : Nat) : Int) % 256) ^^^ BitVec.ofInt 8 y).toNat : Int) % 256 = x
  rw [e, BitVec.xor_assoc, BitVec.xor_self, BitVec.xor_zero, BitVec.toNat_ofInt]
  omega
theorem bytesL_xorF (key nonce : ByteArray) (n : Int) (s : ByteArray) : bytesL (xorF key nonce n s) = (bytesL s).mapIdx fun i x => ixor .u8 x (ksF (initF key nonce n) i) := by
  rw [xorF, xoutF_eq _ _ _ (by rw [bytesL_len]; omega)]
  apply bytesL_bstr
  intro x hx
  rw [List.mem_mapIdx] at hx
  obtain ⟨i, _, rfl⟩ := hx
  exact ixor_range _ _
theorem xor_twice (key nonce : ByteArray) (n : Int) (s : ByteArray) : xorF key nonce n (xorF key nonce n s) = s := by
  apply bytesL_inj
  rw [bytesL_xorF, bytesL_xorF, List.mapIdx_mapIdx]
  have hr := @bytesL_range s
  generalize bytesL s = b at *
  apply List.ext_getElem
  · rw [List.length_mapIdx]
  · intro i h1 h2
    rw [List.getElem_mapIdx]
    have := hr b[i] (List.getElem_mem h2)
    exact ixor_twice _ _ this.1 this.2
theorem nextsF_shift (l : List Int) : ∀ k, nextsF l (k + 1) = nextsF (nextF l) k
  | 0 => by rw [nextsF, nextsF, nextsF]
  | k + 1 => by rw [nextsF, nextsF_shift l k, nextsF]
theorem nextF_init (key nonce : ByteArray) (n : Int) (h0 : 0 ≤ n) (h1 : n < 4294967296) : nextF (initF key nonce n) = initF key nonce (IntKind.u32.wrap (n + 1)) := by
  have := nextsF_init key nonce n h0 h1 1
  rw [nextsF, nextsF] at this
  exact this
theorem bytesL_append (s t : ByteArray) : bytesL (s ++ t) = bytesL s ++ bytesL t := by
  simp [bytesL, ByteArray.data_append]
theorem bytesL_extract (s : ByteArray) (i j : Nat) : bytesL (s.extract i j) = ((bytesL s).take j).drop i := by
  simp [bytesL, List.map_take, List.map_drop, List.extract_eq_take_drop, List.drop_take]
theorem xor_parts (key nonce : ByteArray) (n : Int) (s : ByteArray) (h0 : 0 ≤ n) (h1 : n < 4294967296) (hs : 64 ≤ s.size) : xorF key nonce n s = xorF key nonce n (s.extract 0 64) ++ xorF key nonce (IntKind.u32.wrap (n + 1)) (s.extract 64 s.size) := by
  apply bytesL_inj
  have hl := bytesL_len s
  rw [bytesL_append, bytesL_xorF, bytesL_xorF, bytesL_xorF, bytesL_extract, bytesL_extract, ← nextF_init key nonce n h0 h1, ← hl, List.take_length, List.drop_zero]
  have hk : ∀ i, ksF (nextF (initF key nonce n)) i = ksF (initF key nonce n) (i + 64) := fun i => by
    rw [ksF, ksF, ← nextsF_shift, show (i + 64) / 64 = i / 64 + 1 by omega, show (i + 64) % 64 = i % 64 by omega]
  simp only [hk]
  generalize initF key nonce n = l at *
  generalize bytesL s = b at *
  conv => lhs; rw [← List.take_append_drop 64 b, List.mapIdx_append]
  rw [List.length_take, Nat.min_eq_left (by omega)]
def keyS : Spec := .q fun args blks K => match args, blks with
  | [.agg [.v (.string _), .v (.string _), .v (.int .u32 n)], .v (.string _)], [] => ob (decide (0 ≤ n) && decide (n < 4294967296)) (K (.v (.bool true)))
  | _, _ => False
theorem xors_ok : SpecOK Try.prog 4 keyS := by
  have hS : SpecsOK Try.prog [(18, awakeS), (19, xorS), (20, xorS)] := SpecsOK.cons awake_ok (SpecsOK.cons xor_ok (SpecsOK.cons rxor_ok SpecsOK.nil))
  refine q_of mixed hS Try.func4 rfl rfl fun args blks K h => ?_
  split at h
  · rename_i key nonce n s
    rw [ob_iff] at h
    obtain ⟨hn, h⟩ := h
    simp only [Bool.and_eq_true, decide_eq_true_eq] at hn
    refine ⟨_, rfl, h, rfl, noI, ?_⟩
    rw [xors_vf]
    refine bc_mk (fun _ => (by repeat' (first | exact trivial | exact rfl | apply And.intro | (intro h; exact h)))) (fun h3 => ?_)
    have h3 := of_decide_eq_false h3
    (repeat (first | (with_reducible refine ob_true ?_) | refine ob_mk (by first | (with_reducible exact beq_self_eq_true _) | (with_reducible exact nbeq _) | (with_reducible exact nble _) | (with_reducible exact seq_rfl _) | (with_reducible assumption) | (simp only [decide_eq_true_eq, Bool.and_eq_true, beq_iff_eq, Bool.true_and, Bool.and_true, Nat.beq_eq, Nat.ble_eq, true_and, and_true, ge_iff_le, gt_iff_lt, ge_iff_le]; first | done | omega)) ?_))
    cases hk : badKey key nonce
    · rw [bc_f]
      (repeat (first | (with_reducible refine ob_true ?_) | refine ob_mk (by first | (with_reducible exact beq_self_eq_true _) | (with_reducible exact nbeq _) | (with_reducible exact nble _) | (with_reducible exact seq_rfl _) | (with_reducible assumption) | (simp only [decide_eq_true_eq, Bool.and_eq_true, beq_iff_eq, Bool.true_and, Bool.and_true, Nat.beq_eq, Nat.ble_eq, true_and, and_true, ge_iff_le, gt_iff_lt, ge_iff_le]; first | done | omega)) ?_))
      rw [bc_f, seq_rfl, bc_t]
      exact (by repeat' (first | exact trivial | exact rfl | apply And.intro | (intro h; exact h)))
    · rw [bc_t]
      (repeat (first | (with_reducible refine ob_true ?_) | refine ob_mk (by first | (with_reducible exact beq_self_eq_true _) | (with_reducible exact nbeq _) | (with_reducible exact nble _) | (with_reducible exact seq_rfl _) | (with_reducible assumption) | (simp only [decide_eq_true_eq, Bool.and_eq_true, beq_iff_eq, Bool.true_and, Bool.and_true, Nat.beq_eq, Nat.ble_eq, true_and, and_true, ge_iff_le, gt_iff_lt, ge_iff_le]; first | done | omega)) ?_))
      try rw [bc_t]
      exact (by repeat' (first | exact trivial | exact rfl | apply And.intro | (intro h; exact h)))
  · exact h.elim
theorem twice_ok : SpecOK Try.prog 5 keyS := by
  have hS : SpecsOK Try.prog [(18, awakeS), (19, xorS)] := SpecsOK.cons awake_ok (SpecsOK.cons xor_ok SpecsOK.nil)
  refine q_of mixed hS Try.func5 rfl rfl fun args blks K h => ?_
  split at h
  · rename_i key nonce n s
    rw [ob_iff] at h
    obtain ⟨hn, h⟩ := h
    simp only [Bool.and_eq_true, decide_eq_true_eq] at hn
    refine ⟨_, rfl, h, rfl, noI, ?_⟩
    rw [twice_vf]
    refine bc_mk (fun _ => (by repeat' (first | exact trivial | exact rfl | apply And.intro | (intro h; exact h)))) (fun h3 => ?_)
    have h3 := of_decide_eq_false h3
    (repeat (first | (with_reducible refine ob_true ?_) | refine ob_mk (by first | (with_reducible exact beq_self_eq_true _) | (with_reducible exact nbeq _) | (with_reducible exact nble _) | (with_reducible exact seq_rfl _) | (with_reducible assumption) | (simp only [decide_eq_true_eq, Bool.and_eq_true, beq_iff_eq, Bool.true_and, Bool.and_true, Nat.beq_eq, Nat.ble_eq, true_and, and_true, ge_iff_le, gt_iff_lt, ge_iff_le]; first | done | omega)) ?_))
    have hz := xorF_size key nonce n s
    have ht := xor_twice key nonce n s
    cases hk : badKey key nonce
    · rw [bc_f]
      (repeat (first | (with_reducible refine ob_true ?_) | refine ob_mk (by first | (with_reducible exact beq_self_eq_true _) | (with_reducible exact nbeq _) | (with_reducible exact nble _) | (with_reducible exact seq_rfl _) | (with_reducible assumption) | (simp only [decide_eq_true_eq, Bool.and_eq_true, beq_iff_eq, Bool.true_and, Bool.and_true, Nat.beq_eq, Nat.ble_eq, true_and, and_true, ge_iff_le, gt_iff_lt, hz]; first | done | omega)) ?_))
      obtain ⟨h1, h2⟩ := badKey_false hk
      rw [bc_f, ht, seq_rfl, hz, h1, h2]
      refine bc_mk (fun e => absurd e (by decide)) (fun _ => bc_mk (fun e => absurd e (by decide)) (fun _ => bc_mk (fun _ => bc_mk (fun _ => (by repeat' (first | exact trivial | exact rfl | apply And.intro | (intro h; exact h)))) (fun e => ?_)) (fun e => absurd e (by decide))))
      exfalso; simp at e
    · rw [bc_t]
      (repeat (first | (with_reducible refine ob_true ?_) | refine ob_mk (by first | (with_reducible exact beq_self_eq_true _) | (with_reducible exact nbeq _) | (with_reducible exact nble _) | (with_reducible exact seq_rfl _) | (with_reducible assumption) | (simp only [decide_eq_true_eq, Bool.and_eq_true, beq_iff_eq, Bool.true_and, Bool.and_true, Nat.beq_eq, Nat.ble_eq, true_and, and_true, ge_iff_le, gt_iff_lt, Bool.and_self]; first | done | omega)) ?_))
      try rw [bc_t]
      refine bc_mk (fun _ => (by repeat' (first | exact trivial | exact rfl | apply And.intro | (intro h; exact h)))) (fun e1 => bc_mk (fun _ => (by repeat' (first | exact trivial | exact rfl | apply And.intro | (intro h; exact h)))) (fun e2 => ?_))
      exfalso
      simp at e1 e2
      exact badKey_true hk (by omega) (by omega)
  · exact h.elim
theorem parts_ok : SpecOK Try.prog 6 keyS := by
  have hS : SpecsOK Try.prog [(18, awakeS), (19, xorS)] := SpecsOK.cons awake_ok (SpecsOK.cons xor_ok SpecsOK.nil)
  refine q_of mixed hS Try.func6 rfl rfl fun args blks K h => ?_
  split at h
  · rename_i key nonce n s
    rw [ob_iff] at h
    obtain ⟨hn, h⟩ := h
    simp only [Bool.and_eq_true, decide_eq_true_eq] at hn
    refine ⟨_, rfl, h, rfl, noI, ?_⟩
    rw [parts_vf]
    refine bc_mk (fun _ => (by repeat' (first | exact trivial | exact rfl | apply And.intro | (intro h; exact h)))) (fun h3 => bc_mk (fun _ => (by repeat' (first | exact trivial | exact rfl | apply And.intro | (intro h; exact h)))) (fun h4 => ?_))
    have h3 := of_decide_eq_false h3
    have h4 := of_decide_eq_false h4
    have z1 : (s.extract 0 64).size = 64 := by rw [ByteArray.size_extract]; omega
    have z2 : (s.extract 64 s.size).size = s.size - 64 := by rw [ByteArray.size_extract]; omega
    have w1 : 0 ≤ IntKind.u32.wrap (n + 1) ∧ IntKind.u32.wrap (n + 1) < 4294967296 := by rw [wrap_u32]; omega
    have x1 := xorF_size key nonce n (s.extract 0 64)
    have x2 := xorF_size key nonce (IntKind.u32.wrap (n + 1)) (s.extract 64 s.size)
    have hp := xor_parts key nonce n s hn.1 hn.2 (by omega)
    rw [z1] at x1
    rw [z2] at x2
    (repeat (first | (with_reducible refine ob_true ?_) | refine ob_mk (by first | (with_reducible exact beq_self_eq_true _) | (with_reducible exact nbeq _) | (with_reducible exact nble _) | (with_reducible exact seq_rfl _) | (with_reducible assumption) | (simp only [decide_eq_true_eq, Bool.and_eq_true, beq_iff_eq, Bool.true_and, Bool.and_true, Nat.beq_eq, Nat.ble_eq, true_and, and_true, ge_iff_le, gt_iff_lt, ge_iff_le]; first | done | omega)) ?_))
    cases hk : badKey key nonce
    · rw [bc_f]
      (repeat (first | (with_reducible refine ob_true ?_) | refine ob_mk (by first | (with_reducible exact beq_self_eq_true _) | (with_reducible exact nbeq _) | (with_reducible exact nble _) | (with_reducible exact seq_rfl _) | (with_reducible assumption) | (simp only [decide_eq_true_eq, Bool.and_eq_true, beq_iff_eq, Bool.true_and, Bool.and_true, Nat.beq_eq, Nat.ble_eq, true_and, and_true, ge_iff_le, gt_iff_lt, z1, ge_iff_le]; first | done | omega)) ?_))
      try rw [bc_f]
      (repeat (first | (with_reducible refine ob_true ?_) | refine ob_mk (by first | (with_reducible exact beq_self_eq_true _) | (with_reducible exact nbeq _) | (with_reducible exact nble _) | (with_reducible exact seq_rfl _) | (with_reducible assumption) | (simp only [decide_eq_true_eq, Bool.and_eq_true, beq_iff_eq, Bool.true_and, Bool.and_true, Nat.beq_eq, Nat.ble_eq, true_and, and_true, ge_iff_le, gt_iff_lt, z2, ge_iff_le]; first | done | omega)) ?_))
      try rw [bc_f]
      (repeat (first | (with_reducible refine ob_true ?_) | refine ob_mk (by first | (with_reducible exact beq_self_eq_true _) | (with_reducible exact nbeq _) | (with_reducible exact nble _) | (with_reducible exact seq_rfl _) | (with_reducible assumption) | (simp only [decide_eq_true_eq, Bool.and_eq_true, beq_iff_eq, Bool.true_and, Bool.and_true, Nat.beq_eq, Nat.ble_eq, true_and, and_true, ge_iff_le, gt_iff_lt, x1, x2]; first | done | omega)) ?_))
      rw [← hp, seq_rfl, bc_t]
      exact (by repeat' (first | exact trivial | exact rfl | apply And.intro | (intro h; exact h)))
    · rw [bc_t]
      (repeat (first | (with_reducible refine ob_true ?_) | refine ob_mk (by first | (with_reducible exact beq_self_eq_true _) | (with_reducible exact nbeq _) | (with_reducible exact nble _) | (with_reducible exact seq_rfl _) | (with_reducible assumption) | (simp only [decide_eq_true_eq, Bool.and_eq_true, beq_iff_eq, Bool.true_and, Bool.and_true, Nat.beq_eq, Nat.ble_eq, true_and, and_true, ge_iff_le, gt_iff_lt, z1, ge_iff_le]; first | done | omega)) ?_))
      try rw [bc_t]
      (repeat (first | (with_reducible refine ob_true ?_) | refine ob_mk (by first | (with_reducible exact beq_self_eq_true _) | (with_reducible exact nbeq _) | (with_reducible exact nble _) | (with_reducible exact seq_rfl _) | (with_reducible assumption) | (simp only [decide_eq_true_eq, Bool.and_eq_true, beq_iff_eq, Bool.true_and, Bool.and_true, Nat.beq_eq, Nat.ble_eq, true_and, and_true, ge_iff_le, gt_iff_lt, z2, ge_iff_le]; first | done | omega)) ?_))
      try rw [bc_t]
      exact (by repeat' (first | exact trivial | exact rfl | apply And.intro | (intro h; exact h)))
  · exact h.elim

end Go.Proofs.Ytinmllbkdjceaaa.Sx
