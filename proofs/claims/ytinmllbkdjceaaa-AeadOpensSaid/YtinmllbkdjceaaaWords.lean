/- Words of 64 bits: sums with a carry, products, bytes to words; the functions of math/bits that do so, as contracts. No condition. -/
import Derived.Laws.Externs
import Derived.Laws.MathBits
import Derived.Test.YtinmllbkdjceaaaSx11
import Derived.Test.YtinmllbkdjceaaaProg
import Derived.Test.YtinmllbkdjceaaaBits
namespace Go.Proofs.Ytinmllbkdjceaaa.Sx
open Go Go.Proofs
set_option maxRecDepth 100000
set_option linter.unusedSimpArgs false
set_option linter.unusedVariables false

def okB (l : List Int) : Bool := l.all fun x => decide (0 ≤ x) && decide (x < 256)
/-- The number of so many bytes from an offset on, the lowest first. -/
def numK (l : List Int) (off : Nat) : Nat → Int
  | 0 => 0
  | i + 1 => numK l off i + l.getD (off + i) 0 * 256 ^ i
def add64S : Spec := .x fun args K => match args with
  | [.v (.int .u64 x), .v (.int .u64 y), .v (.int .u64 c)] => ob (decide (0 ≤ x) && decide (0 ≤ y) && decide (0 ≤ c) && decide (c ≤ 1)) (K (.tup [.v (.int .u64 ((x + y + c) % 18446744073709551616)), .v (.int .u64 ((x + y + c) / 18446744073709551616))]))
  | _ => False
def sub64S : Spec := .x fun args K => match args with
  | [.v (.int .u64 x), .v (.int .u64 y), .v (.int .u64 c)] => ob (decide (0 ≤ x) && decide (x < 18446744073709551616) && decide (0 ≤ y) && decide (y < 18446744073709551616) && decide (0 ≤ c) && decide (c ≤ 1)) (K (.tup [.v (.int .u64 ((x - y - c) % 18446744073709551616)), .v (.int .u64 (-((x - y - c) / 18446744073709551616)))]))
  | _ => False
def mul64S : Spec := .q fun args blks K => match args, blks with
  | [.v (.int .u64 x), .v (.int .u64 y)], [] => ob (decide (0 ≤ x) && decide (x < 18446744073709551616) && decide (0 ≤ y) && decide (y < 18446744073709551616)) (K (.tup [.v (.int .u64 (x * y / 18446744073709551616)), .v (.int .u64 (x * y % 18446744073709551616))]))
  | _, _ => False
theorem mul64_vf (x y : Int) (K : SV → List Blk → List Nat → Prop) : vf Try.prog [] (noI) Try.f69 [.v (.int .u64 x), .v (.int .u64 y)] [] K =
  (ob true (ob true (ob true (ob true (ob true (K (SV.tup [SV.v (Value.int IntKind.u64 (IntKind.u64.wrap (IntKind.u64.wrap (IntKind.u64.wrap (ishr IntKind.u64 x (32 : Int) * ishr IntKind.u64 y (32 : Int)) + ishr IntKind.u64 (IntKind.u64.wrap (IntKind.u64.wrap (ishr IntKind.u64 x (32 : Int) * iand IntKind.u64 y (4294967295 : Int)) + ishr IntKind.u64 (IntKind.u64.wrap (iand IntKind.u64 x (4294967295 : Int) * iand IntKind.u64 y (4294967295 : Int))) (32 : Int))) (32 : Int)) + ishr IntKind.u64 (IntKind.u64.wrap (iand IntKind.u64 (IntKind.u64.wrap (IntKind.u64.wrap (ishr IntKind.u64 x (32 : Int) * iand IntKind.u64 y (4294967295 : Int)) + ishr IntKind.u64 (IntKind.u64.wrap (iand IntKind.u64 x (4294967295 : Int) * iand IntKind.u64 y (4294967295 : Int))) (32 : Int))) (4294967295 : Int) + IntKind.u64.wrap (iand IntKind.u64 x (4294967295 : Int) * ishr IntKind.u64 y (32 : Int)))) (32 : Int)))), SV.v (Value.int IntKind.u64 (IntKind.u64.wrap (x * y)))]) [] [])))))) := by kernel_rfl
theorem add64_ok : SpecOK Try.prog 58 add64S := by
  intro n ρ σ args us K hr h
  split at h
  · rename_i x y c
    rw [ob_iff] at h
    obtain ⟨hb, hK⟩ := h
    simp only [Bool.and_eq_true, decide_eq_true_eq] at hb
    refine ⟨_, _, hK, ⟨#[.int .u64 ((x + y + c) % 18446744073709551616), .int .u64 ((x + y + c) / 18446744073709551616)], rfl, ⟨_, _, rfl, rfl, ⟨_, _, rfl, rfl, rfl⟩⟩⟩, fun w => ?_⟩
    have hu : us = #[.int .u64 x, .int .u64 y, .int .u64 c] := by
      obtain ⟨a, l, h1, h2, b, m, h3, h4, d, o, h5, h6, h7⟩ := hr
      simp only [Rel] at h2 h4 h6
      cases us; simp_all [RelL]
    subst hu
    rw [run_callFunc_extern Try.func58 (by kernel_rfl) (by kernel_rfl) (by kernel_rfl) (e := add64Entry) (by kernel_rfl), run_add64 x y c (by omega) (by omega) (by omega) (by omega)]
    rfl
  · exact h.elim
def sub64E : Array Value → Sem Value := fun args => do
  let (x, y, b) ← Extern.MathBitsCarry.three "Sub64" args
  pure (Extern.MathBitsCarry.pair ((x + Extern.MathBitsCarry.m64 - y - b) % Extern.MathBitsCarry.m64) (if x < y + b then 1 else 0))
theorem run_sub64E {P : Program} (x y b : Nat) (hb : b ≤ 1) (w : World) :
    (sub64E #[.int .u64 x, .int .u64 y, .int .u64 b]).run P w =
      .ok (.tuple #[.int .u64 (((x + 18446744073709551616 - y - b) % 18446744073709551616 : Nat) : Int), .int .u64 ((if x < y + b then 1 else 0 : Nat) : Int)]) w := by
  have : b = 0 ∨ b = 1 := by omega
  rcases this with rfl | rfl <;> rfl
theorem sub64_ok : SpecOK Try.prog 57 sub64S := by
  intro n ρ σ args us K hr h
  split at h
  · rename_i x y c
    rw [ob_iff] at h
    obtain ⟨hb, hK⟩ := h
    simp only [Bool.and_eq_true, decide_eq_true_eq] at hb
    refine ⟨_, _, hK, ⟨#[.int .u64 ((x - y - c) % 18446744073709551616), .int .u64 (-((x - y - c) / 18446744073709551616))], rfl, ⟨_, _, rfl, rfl, ⟨_, _, rfl, rfl, rfl⟩⟩⟩, fun w => ?_⟩
    have hu : us = #[.int .u64 x, .int .u64 y, .int .u64 c] := by
      obtain ⟨a, l, h1, h2, b, m, h3, h4, d, o, h5, h6, h7⟩ := hr
      simp only [Rel] at h2 h4 h6
      cases us; simp_all [RelL]
    subst hu
    obtain ⟨X, rfl⟩ := Int.eq_ofNat_of_zero_le (show 0 ≤ x by omega)
    obtain ⟨Y, rfl⟩ := Int.eq_ofNat_of_zero_le (show 0 ≤ y by omega)
    obtain ⟨C, rfl⟩ := Int.eq_ofNat_of_zero_le (show 0 ≤ c by omega)
    rw [run_callFunc_extern Try.func57 (by kernel_rfl) (by kernel_rfl) (by kernel_rfl) (e := sub64E) (by kernel_rfl), run_sub64E X Y C (by omega)]
    have e1 : (((X + 18446744073709551616 - Y - C) % 18446744073709551616 : Nat) : Int) = ((X : Int) - Y - C) % 18446744073709551616 := by omega
    have e2 : ((if X < Y + C then 1 else 0 : Nat) : Int) = -(((X : Int) - Y - C) / 18446744073709551616) := by split <;> omega
    rw [e1, e2]
    rfl
  · exact h.elim
theorem iand_mask (k : IntKind) (x : Int) (n m : Nat) (hm : m = 2 ^ n) (hn : n ≤ k.bits) (hs : k.signed = false) (h0 : 0 ≤ x) (h1 : x < 2 ^ k.bits) : iand k x ((m - 1 : Nat) : Int) = x % (m : Int) := by
  subst hm
  obtain ⟨a, rfl⟩ := Int.eq_ofNat_of_zero_le h0
  have ha : a < 2 ^ k.bits := by exact_mod_cast h1
  have h2 : 2 ^ n ≤ 2 ^ k.bits := Nat.pow_le_pow_right (by decide) hn
  have hp : 0 < 2 ^ n := Nat.pow_pos (by decide)
  unfold iand
  rw [BitVec.toNat_and, BitVec.ofInt_natCast, BitVec.ofInt_natCast, BitVec.toNat_ofNat, BitVec.toNat_ofNat, Nat.mod_eq_of_lt ha, Nat.mod_eq_of_lt (by omega), Nat.and_two_pow_sub_one_eq_mod]
  have h3 : a % 2 ^ n < 2 ^ k.bits := Nat.lt_of_lt_of_le (Nat.mod_lt _ hp) h2
  unfold IntKind.wrap
  simp only [hs]
  have e : ((a % 2 ^ n : Nat) : Int) = (a : Int) % ((2 ^ n : Nat) : Int) := by exact_mod_cast rfl
  rw [← e]
  have : ((a % 2 ^ n : Nat) : Int) % 2 ^ k.bits = ((a % 2 ^ n : Nat) : Int) := by
    rw [Int.emod_eq_of_lt (by omega)]
    exact_mod_cast h3
  simpa using this
theorem ishr_div (k : IntKind) (x : Int) (n : Nat) (h : n ≤ k.bits) : ishr k x (n : Int) = x / 2 ^ n := by
  unfold ishr
  rw [Int.toNat_natCast, Nat.min_eq_left h, Int.fdiv_eq_ediv_of_nonneg _ (by exact_mod_cast Nat.zero_le _)]
theorem iand_64_32 (x : Int) (h0 : 0 ≤ x) (h1 : x < 18446744073709551616) : iand .u64 x 4294967295 = x % 4294967296 := iand_mask .u64 x 32 4294967296 (by decide) (by decide) rfl h0 h1
theorem ishr_64_32 (x : Int) : ishr .u64 x 32 = x / 4294967296 := ishr_div .u64 x 32 (by decide)
theorem iand_64_mod (e : Int) : iand .u64 (e % 18446744073709551616) 4294967295 = e % 18446744073709551616 % 4294967296 := iand_64_32 _ (by omega) (by omega)
theorem mul64_ok : SpecOK Try.prog 69 mul64S := by
  refine q_of mixed SpecsOK.nil Try.func69 rfl rfl fun args blks K h => ?_
  split at h
  · rename_i x y
    rw [ob_iff] at h
    obtain ⟨hb, hg⟩ := h
    simp only [Bool.and_eq_true, decide_eq_true_eq] at hb
    refine ⟨_, rfl, hg, rfl, noI, ?_⟩
    rw [mul64_vf]
    (repeat (first | (with_reducible refine ob_true ?_) | refine ob_mk (by first | (with_reducible exact beq_self_eq_true _) | (with_reducible exact nbeq _) | (with_reducible exact nble _) | (with_reducible exact seq_rfl _) | (with_reducible assumption) | (simp only [decide_eq_true_eq, Bool.and_eq_true, beq_iff_eq, Bool.true_and, Bool.and_true, Nat.beq_eq, Nat.ble_eq, true_and, and_true, ge_iff_le, gt_iff_lt]; first | done | omega)) ?_))
    refine ⟨?_, (by repeat' (first | exact trivial | exact rfl | apply And.intro | (intro h; exact h)))⟩
    have ha := mul64_arith x y (by omega) (by omega) (by omega) (by omega)
    simp only [ishr_64_32, wrap_u64, iand_64_32 x (by omega) (by omega), iand_64_32 y (by omega) (by omega), iand_64_mod]
    rw [ha]
  · exact h.elim
/-- An 'or' of a number below a power and a multiple of it is a sum. -/
theorem ior_add (k : IntKind) (x y : Int) (n : Nat) (hs : k.signed = false) (hn : n ≤ k.bits) (h0 : 0 ≤ x) (h1 : x < 2 ^ n) (h2 : 0 ≤ y) (h3 : y * 2 ^ n < 2 ^ k.bits) : ior k x (y * 2 ^ n) = x + y * 2 ^ n := by
  obtain ⟨a, rfl⟩ := Int.eq_ofNat_of_zero_le h0
  obtain ⟨b, rfl⟩ := Int.eq_ofNat_of_zero_le h2
  have ha : a < 2 ^ n := by exact_mod_cast h1
  have hb : b * 2 ^ n < 2 ^ k.bits := by exact_mod_cast h3
  have h2 : 2 ^ n ≤ 2 ^ k.bits := Nat.pow_le_pow_right (by decide) hn
  have e : ((b : Int) * 2 ^ n) = ((b * 2 ^ n : Nat) : Int) := by push_cast; rfl
  have hd : b * 2 ^ n + a = b * 2 ^ n ||| a := by
    rw [← Nat.shiftLeft_eq]; exact Nat.shiftLeft_add_eq_or_of_lt ha b
  have hlt : a ||| b * 2 ^ n < 2 ^ k.bits := Nat.or_lt_two_pow (by omega) hb
  have hs2 : ((a : Int) + ((b * 2 ^ n : Nat) : Int)) = ((a ||| b * 2 ^ n : Nat) : Int) := by
    rw [Nat.or_comm, ← hd]; push_cast; omega
  rw [e, hs2]
  unfold ior
  rw [BitVec.toNat_or, BitVec.ofInt_natCast, BitVec.ofInt_natCast, BitVec.toNat_ofNat, BitVec.toNat_ofNat, Nat.mod_eq_of_lt (by omega), Nat.mod_eq_of_lt hb]
  unfold IntKind.wrap
  simp only [hs]
  have : (((a ||| b * 2 ^ n : Nat) : Int)) % 2 ^ k.bits = ((a ||| b * 2 ^ n : Nat) : Int) := by
    rw [Int.emod_eq_of_lt (by omega)]
    exact_mod_cast hlt
  simpa using this
theorem okB_get {l : List Int} (h : okB l = true) (i : Nat) : 0 ≤ l.getD i 0 ∧ l.getD i 0 < 256 := by
  rw [List.getD_eq_getElem?_getD]
  cases e : l[i]? with
  | none => simp
  | some x =>
    have := List.all_eq_true.1 h x (List.mem_of_getElem? e)
    simpa using this
theorem numK_bound {l : List Int} (h : okB l = true) (off : Nat) : ∀ i, 0 ≤ numK l off i ∧ numK l off i < 256 ^ i
  | 0 => by rw [numK]; decide
  | i + 1 => by
    rw [numK, Int.pow_succ]
    have h1 := numK_bound h off i
    have h2 := okB_get h (off + i)
    have hp : (0 : Int) < 256 ^ i := Int.pow_pos (by decide)
    generalize (256 : Int) ^ i = p at *
    generalize l.getD (off + i) 0 = x at *
    generalize numK l off i = m at *
    have h3 : 0 ≤ x * p := Int.mul_nonneg h2.1 (by omega)
    have h4 : x * p ≤ 255 * p := Int.mul_le_mul_of_nonneg_right (by omega) (by omega)
    omega
theorem pow_256 (k : Nat) : (256 : Int) ^ k = 2 ^ (8 * k) := by
  rw [Int.pow_mul]; rfl

end Go.Proofs.Ytinmllbkdjceaaa.Sx
