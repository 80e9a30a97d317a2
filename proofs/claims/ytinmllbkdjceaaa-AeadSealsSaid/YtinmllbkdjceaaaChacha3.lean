/- ChaCha20's states and blocks. No condition. -/
import Derived.Test.YtinmllbkdjceaaaSx11
import Derived.Test.YtinmllbkdjceaaaProg
import Derived.Test.YtinmllbkdjceaaaBits
import Derived.Test.YtinmllbkdjceaaaChacha1
import Derived.Test.YtinmllbkdjceaaaChacha2
namespace Go.Proofs.Ytinmllbkdjceaaa.Sx
open Go Go.Proofs
set_option maxRecDepth 100000
set_option linter.unusedSimpArgs false
set_option linter.unusedVariables false

def initF (key nonce : ByteArray) (n : Int) : List Int := [1634760805, 857760878, 2036477234, 1797285236, wordF (key.extract 0 key.size), wordF (key.extract 4 key.size), wordF (key.extract 8 key.size), wordF (key.extract 12 key.size), wordF (key.extract 16 key.size), wordF (key.extract 20 key.size), wordF (key.extract 24 key.size), wordF (key.extract 28 key.size), n, wordF (nonce.extract 0 nonce.size), wordF (nonce.extract 4 nonce.size), wordF (nonce.extract 8 nonce.size)]
def badKey (key nonce : ByteArray) : Bool := !(Nat.beq key.size 32) || !(Nat.beq nonce.size 12)
def newS : Spec := .q fun args blks K => match args, blks with
  | [.v (.string key), .v (.string nonce), .v (.int .u32 n)], [] => bc (badKey key nonce)
      (K (.tup [.ia .u32 [0, 0, 0, 0, 0, 0, 0, 0, 0, 0, 0, 0, 0, 0, 0, 0], .v (.int .i64 2)]))
      (K (.tup [.ia .u32 (initF key nonce n), .v (.int .i64 0)]))
  | _, _ => False
theorem new_vf (key nonce : ByteArray) (n : Int) (K : SV → List Blk → List Nat → Prop) : vf Try.prog [(52, wordS)] (noI) Try.f33 [.v (.string key), .v (.string nonce), .v (.int .u32 n)] [] K =
  (bc ((↑key.size : Int) != 32) (K (SV.tup [SV.ia IntKind.u32 [0, 0, 0, 0, 0, 0, 0, 0, 0, 0, 0, 0, 0, 0, 0, 0], SV.v (Value.int IntKind.i64 2)]) [Blk.ints true IntKind.u32 [0, 0, 0, 0, 0, 0, 0, 0, 0, 0, 0, 0, 0, 0, 0, 0]] []) (bc (bif false then true else (↑nonce.size : Int) != 12) (K (SV.tup [SV.ia IntKind.u32 [0, 0, 0, 0, 0, 0, 0, 0, 0, 0, 0, 0, 0, 0, 0, 0], SV.v (Value.int IntKind.i64 2)]) [Blk.ints true IntKind.u32 [0, 0, 0, 0, 0, 0, 0, 0, 0, 0, 0, 0, 0, 0, 0, 0]] []) (ob (decide (4 ≤ (key.extract 0 key.size).size)) (ob (true && decide (4 ≤ (↑key.size : Int))) (ob (decide (4 ≤ (key.extract 4 key.size).size)) (ob (true && decide (8 ≤ (↑key.size : Int))) (ob (decide (4 ≤ (key.extract 8 key.size).size)) (ob (true && decide (12 ≤ (↑key.size : Int))) (ob (decide (4 ≤ (key.extract 12 key.size).size)) (ob (true && decide (16 ≤ (↑key.size : Int))) (ob (decide (4 ≤ (key.extract 16 key.size).size)) (ob (true && decide (20 ≤ (↑key.size : Int))) (ob (decide (4 ≤ (key.extract 20 key.size).size)) (ob (true && decide (24 ≤ (↑key.size : Int))) (ob (decide (4 ≤ (key.extract 24 key.size).size)) (ob (true && decide (28 ≤ (↑key.size : Int))) (ob (decide (4 ≤ (key.extract 28 key.size).size)) (ob (decide (4 ≤ (nonce.extract 0 nonce.size).size)) (ob (true && decide (4 ≤ (↑nonce.size : Int))) (ob (decide (4 ≤ (nonce.extract 4 nonce.size).size)) (ob (true && decide (8 ≤ (↑nonce.size : Int))) (ob (decide (4 ≤ (nonce.extract 8 nonce.size).size)) (K (SV.tup [SV.ia IntKind.u32 [1634760805, 857760878, 2036477234, 1797285236, wordF (key.extract 0 key.size), wordF (key.extract 4 key.size), wordF (key.extract 8 key.size), wordF (key.extract 12 key.size), wordF (key.extract 16 key.size), wordF (key.extract 20 key.size), wordF (key.extract 24 key.size), wordF (key.extract 28 key.size), n, wordF (nonce.extract 0 nonce.size), wordF (nonce.extract 4 nonce.size), wordF (nonce.extract 8 nonce.size)], SV.v (Value.int IntKind.i64 0)]) [Blk.ints true IntKind.u32 [1634760805, 857760878, 2036477234, 1797285236, wordF (key.extract 0 key.size), wordF (key.extract 4 key.size), wordF (key.extract 8 key.size), wordF (key.extract 12 key.size), wordF (key.extract 16 key.size), wordF (key.extract 20 key.size), wordF (key.extract 24 key.size), wordF (key.extract 28 key.size), n, wordF (nonce.extract 0 nonce.size), wordF (nonce.extract 4 nonce.size), wordF (nonce.extract 8 nonce.size)], Blk.ints true IntKind.u32 [1634760805, 857760878, 2036477234, 1797285236, wordF (key.extract 0 key.size), wordF (key.extract 4 key.size), wordF (key.extract 8 key.size), wordF (key.extract 12 key.size), wordF (key.extract 16 key.size), wordF (key.extract 20 key.size), wordF (key.extract 24 key.size), wordF (key.extract 28 key.size), n, wordF (nonce.extract 0 nonce.size), wordF (nonce.extract 4 nonce.size), wordF (nonce.extract 8 nonce.size)]] []))))))))))))))))))))))) := by kernel_rfl
/-- The next block's state. -/
def nextF (l : List Int) : List Int := l.set 12 (IntKind.u32.wrap (l.getD 12 0 + 1))
def nextS : Spec := .q fun args blks K => match args, blks with
  | [.ia .u32 l], [] => ob (decide (l.length = 16)) (K (.ia .u32 (nextF l)))
  | _, _ => False
theorem next_vf (x0 x1 x2 x3 x4 x5 x6 x7 x8 x9 x10 x11 x12 x13 x14 x15 : Int) (K : SV → List Blk → List Nat → Prop) : vf Try.prog [] (noI) Try.f38 [.ia .u32 [x0, x1, x2, x3, x4, x5, x6, x7, x8, x9, x10, x11, x12, x13, x14, x15]] [] K =
  (K (SV.ia IntKind.u32 [x0, x1, x2, x3, x4, x5, x6, x7, x8, x9, x10, x11, IntKind.u32.wrap (x12 + 1), x13, x14, x15]) [Blk.ints true IntKind.u32 [x0, x1, x2, x3, x4, x5, x6, x7, x8, x9, x10, x11, IntKind.u32.wrap (x12 + 1), x13, x14, x15], Blk.ints true IntKind.u32 [x0, x1, x2, x3, x4, x5, x6, x7, x8, x9, x10, x11, IntKind.u32.wrap (x12 + 1), x13, x14, x15]] []) := by kernel_rfl
/-- Two rounds. -/
def roundF (l : List Int) : List Int := quarterF (quarterF (quarterF (quarterF (quarterF (quarterF (quarterF (quarterF l 0 4 8 12) 1 5 9 13) 2 6 10 14) 3 7 11 15) 0 5 10 15) 1 6 11 12) 2 7 8 13) 3 4 9 14
def roundsF : Nat → List Int → List Int
  | 0, l => l
  | k + 1, l => roundF (roundsF k l)
def outF (x s : List Int) : Nat → List Int
  | 0 => List.replicate 64 0
  | j + 1 => (outF x s j).set j (IntKind.u8.wrap (ishr .u32 (IntKind.u32.wrap (x.getD (j / 4) 0 + s.getD (j / 4) 0)) (8 * (j % 4) : Nat)))
def bytesF (l : List Int) : List Int := outF (roundsF 10 l) l 64
def bytesS : Spec := .q fun args blks K => match args, blks with
  | [.ia .u32 l], [] => ob (decide (l.length = 16)) (K (.ia .u8 (bytesF l)))
  | _, _ => False
theorem bytes_vf (x0 x1 x2 x3 x4 x5 x6 x7 x8 x9 x10 x11 x12 x13 x14 x15 : Int) (K : SV → List Blk → List Nat → Prop) : vf Try.prog [(53, quarterS)] (fun id st => match id with
  | 0 => .inv 10 fun k => { st with env := (8, inat k) :: keep st.env [1, 2, 3], tbl := st.tbl.set 2 (.ints true .u32 (roundsF k [x0, x1, x2, x3, x4, x5, x6, x7, x8, x9, x10, x11, x12, x13, x14, x15])) }
  | _ => .inv 64 fun j => { st with env := (19, inat j) :: keep st.env [1, 2, 3, 4], tbl := st.tbl.set 3 (.ints true .u8 (outF (gi st 2) [x0, x1, x2, x3, x4, x5, x6, x7, x8, x9, x10, x11, x12, x13, x14, x15] j)) }) Try.f34 [.ia .u32 [x0, x1, x2, x3, x4, x5, x6, x7, x8, x9, x10, x11, x12, x13, x14, x15]] [] K =
  (ob ([x0, x1, x2, x3, x4, x5, x6, x7, x8, x9, x10, x11, x12, x13, x14, x15] == [x0, x1, x2, x3, x4, x5, x6, x7, x8, x9, x10, x11, x12, x13, x14, x15]) (ob ([x0, x1, x2, x3, x4, x5, x6, x7, x8, x9, x10, x11, x12, x13, x14, x15] == roundsF 0 [x0, x1, x2, x3, x4, x5, x6, x7, x8, x9, x10, x11, x12, x13, x14, x15]) (∀ (k : Nat), k ≤ 10 → bc (decide ((↑k : Int) < 10)) (ob (true && decide ((roundsF k [x0, x1, x2, x3, x4, x5, x6, x7, x8, x9, x10, x11, x12, x13, x14, x15]).length = 16)) (ob (true && decide ((quarterF (roundsF k [x0, x1, x2, x3, x4, x5, x6, x7, x8, x9, x10, x11, x12, x13, x14, x15]) 0 4 8 12).length = 16)) (ob (true && decide ((quarterF (quarterF (roundsF k [x0, x1, x2, x3, x4, x5, x6, x7, x8, x9, x10, x11, x12, x13, x14, x15]) 0 4 8 12) 1 5 9 13).length = 16)) (ob (true && decide ((quarterF (quarterF (quarterF (roundsF k [x0, x1, x2, x3, x4, x5, x6, x7, x8, x9, x10, x11, x12, x13, x14, x15]) 0 4 8 12) 1 5 9 13) 2 6 10 14).length = 16)) (ob (true && decide ((quarterF (quarterF (quarterF (quarterF (roundsF k [x0, x1, x2, x3, x4, x5, x6, x7, x8, x9, x10, x11, x12, x13, x14, x15]) 0 4 8 12) 1 5 9 13) 2 6 10 14) 3 7 11 15).length = 16)) (ob (true && decide ((quarterF (quarterF (quarterF (quarterF (quarterF (roundsF k [x0, x1, x2, x3, x4, x5, x6, x7, x8, x9, x10, x11, x12, x13, x14, x15]) 0 4 8 12) 1 5 9 13) 2 6 10 14) 3 7 11 15) 0 5 10 15).length = 16)) (ob (true && decide ((quarterF (quarterF (quarterF (quarterF (quarterF (quarterF (roundsF k [x0, x1, x2, x3, x4, x5, x6, x7, x8, x9, x10, x11, x12, x13, x14, x15]) 0 4 8 12) 1 5 9 13) 2 6 10 14) 3 7 11 15) 0 5 10 15) 1 6 11 12).length = 16)) (ob (true && decide ((quarterF (quarterF (quarterF (quarterF (quarterF (quarterF (quarterF (roundsF k [x0, x1, x2, x3, x4, x5, x6, x7, x8, x9, x10, x11, x12, x13, x14, x15]) 0 4 8 12) 1 5 9 13) 2 6 10 14) 3 7 11 15) 0 5 10 15) 1 6 11 12) 2 7 8 13).length = 16)) (k < 10 ∧ ob (IntKind.i64.wrap ((↑k : Int) + 1) == (↑(k + 1) : Int)) (ob ([x0, x1, x2, x3, x4, x5, x6, x7, x8, x9, x10, x11, x12, x13, x14, x15] == [x0, x1, x2, x3, x4, x5, x6, x7, x8, x9, x10, x11, x12, x13, x14, x15]) (ob (quarterF (quarterF (quarterF (quarterF (quarterF (quarterF (quarterF (quarterF (roundsF k [x0, x1, x2, x3, x4, x5, x6, x7, x8, x9, x10, x11, x12, x13, x14, x15]) 0 4 8 12) 1 5 9 13) 2 6 10 14) 3 7 11 15) 0 5 10 15) 1 6 11 12) 2 7 8 13) 3 4 9 14 == roundsF (k + 1) [x0, x1, x2, x3, x4, x5, x6, x7, x8, x9, x10, x11, x12, x13, x14, x15]) True))))))))))) (ob ([x0, x1, x2, x3, x4, x5, x6, x7, x8, x9, x10, x11, x12, x13, x14, x15] == [x0, x1, x2, x3, x4, x5, x6, x7, x8, x9, x10, x11, x12, x13, x14, x15]) (ob (roundsF k [x0, x1, x2, x3, x4, x5, x6, x7, x8, x9, x10, x11, x12, x13, x14, x15] == roundsF k [x0, x1, x2, x3, x4, x5, x6, x7, x8, x9, x10, x11, x12, x13, x14, x15]) (ob ([0, 0, 0, 0, 0, 0, 0, 0, 0, 0, 0, 0, 0, 0, 0, 0, 0, 0, 0, 0, 0, 0, 0, 0, 0, 0, 0, 0, 0, 0, 0, 0, 0, 0, 0, 0, 0, 0, 0, 0, 0, 0, 0, 0, 0, 0, 0, 0, 0, 0, 0, 0, 0, 0, 0, 0, 0, 0, 0, 0, 0, 0, 0, 0] == outF (roundsF k [x0, x1, x2, x3, x4, x5, x6, x7, x8, x9, x10, x11, x12, x13, x14, x15]) [x0, x1, x2, x3, x4, x5, x6, x7, x8, x9, x10, x11, x12, x13, x14, x15] 0) (∀ (k_1 : Nat), k_1 ≤ 64 → bc (decide ((↑k_1 : Int) < 64)) (ob (decide (0 ≤ IntKind.i64.wrap ((↑k_1 : Int).tdiv 4)) && decide (IntKind.i64.wrap ((↑k_1 : Int).tdiv 4) < 16)) (ob (decide (0 + (IntKind.i64.wrap ((↑k_1 : Int).tdiv 4)).toNat * 1 < (roundsF k [x0, x1, x2, x3, x4, x5, x6, x7, x8, x9, x10, x11, x12, x13, x14, x15]).length)) (ob (decide (0 ≤ IntKind.i64.wrap ((↑k_1 : Int).tdiv 4)) && decide (IntKind.i64.wrap ((↑k_1 : Int).tdiv 4) < 16)) (ob (decide (0 + (IntKind.i64.wrap ((↑k_1 : Int).tdiv 4)).toNat * 1 < 16)) (ob (decide (0 ≤ IntKind.i64.wrap (8 * (↑k_1 : Int).tmod 4))) (ob (true && decide ((↑k_1 : Int) < 64)) (ob (decide (0 + (↑k_1 : Int).toNat * 1 < (outF (roundsF k [x0, x1, x2, x3, x4, x5, x6, x7, x8, x9, x10, x11, x12, x13, x14, x15]) [x0, x1, x2, x3, x4, x5, x6, x7, x8, x9, x10, x11, x12, x13, x14, x15] k_1).length)) (k_1 < 64 ∧ ob (IntKind.i64.wrap ((↑k_1 : Int) + 1) == (↑(k_1 + 1) : Int)) (ob ([x0, x1, x2, x3, x4, x5, x6, x7, x8, x9, x10, x11, x12, x13, x14, x15] == [x0, x1, x2, x3, x4, x5, x6, x7, x8, x9, x10, x11, x12, x13, x14, x15]) (ob (roundsF k [x0, x1, x2, x3, x4, x5, x6, x7, x8, x9, x10, x11, x12, x13, x14, x15] == roundsF k [x0, x1, x2, x3, x4, x5, x6, x7, x8, x9, x10, x11, x12, x13, x14, x15]) (ob ((outF (roundsF k [x0, x1, x2, x3, x4, x5, x6, x7, x8, x9, x10, x11, x12, x13, x14, x15]) [x0, x1, x2, x3, x4, x5, x6, x7, x8, x9, x10, x11, x12, x13, x14, x15] k_1).set (0 + (↑k_1 : Int).toNat * 1) (IntKind.u8.wrap (ishr IntKind.u32 (IntKind.u32.wrap ((roundsF k [x0, x1, x2, x3, x4, x5, x6, x7, x8, x9, x10, x11, x12, x13, x14, x15]).getD (0 + (IntKind.i64.wrap ((↑k_1 : Int).tdiv 4)).toNat * 1) 0 + [x0, x1, x2, x3, x4, x5, x6, x7, x8, x9, x10, x11, x12, x13, x14, x15].getD (0 + (IntKind.i64.wrap ((↑k_1 : Int).tdiv 4)).toNat * 1) 0)) (IntKind.i64.wrap (8 * (↑k_1 : Int).tmod 4)))) == outF (roundsF k [x0, x1, x2, x3, x4, x5, x6, x7, x8, x9, x10, x11, x12, x13, x14, x15]) [x0, x1, x2, x3, x4, x5, x6, x7, x8, x9, x10, x11, x12, x13, x14, x15] (k_1 + 1)) True))))))))))) (ob (decide ((outF (roundsF k [x0, x1, x2, x3, x4, x5, x6, x7, x8, x9, x10, x11, x12, x13, x14, x15]) [x0, x1, x2, x3, x4, x5, x6, x7, x8, x9, x10, x11, x12, x13, x14, x15] k_1).length = 64)) (ob ((outF (roundsF k [x0, x1, x2, x3, x4, x5, x6, x7, x8, x9, x10, x11, x12, x13, x14, x15]) [x0, x1, x2, x3, x4, x5, x6, x7, x8, x9, x10, x11, x12, x13, x14, x15] k_1).length.beq 64) (ob (decide ((outF (roundsF k [x0, x1, x2, x3, x4, x5, x6, x7, x8, x9, x10, x11, x12, x13, x14, x15]) [x0, x1, x2, x3, x4, x5, x6, x7, x8, x9, x10, x11, x12, x13, x14, x15] k_1).length = 64)) (K (SV.ia IntKind.u8 (outF (roundsF k [x0, x1, x2, x3, x4, x5, x6, x7, x8, x9, x10, x11, x12, x13, x14, x15]) [x0, x1, x2, x3, x4, x5, x6, x7, x8, x9, x10, x11, x12, x13, x14, x15] k_1)) [Blk.ints true IntKind.u32 [x0, x1, x2, x3, x4, x5, x6, x7, x8, x9, x10, x11, x12, x13, x14, x15], Blk.ints true IntKind.u8 (outF (roundsF k [x0, x1, x2, x3, x4, x5, x6, x7, x8, x9, x10, x11, x12, x13, x14, x15]) [x0, x1, x2, x3, x4, x5, x6, x7, x8, x9, x10, x11, x12, x13, x14, x15] k_1), Blk.ints true IntKind.u32 (roundsF k [x0, x1, x2, x3, x4, x5, x6, x7, x8, x9, x10, x11, x12, x13, x14, x15]), Blk.ints true IntKind.u8 (outF (roundsF k [x0, x1, x2, x3, x4, x5, x6, x7, x8, x9, x10, x11, x12, x13, x14, x15]) [x0, x1, x2, x3, x4, x5, x6, x7, x8, x9, x10, x11, x12, x13, x14, x15] k_1)] []))))))))))) := by kernel_rfl

theorem quarterF_len (l : List Int) (a b c d : Nat) : (quarterF l a b c d).length = l.length := by simp [quarterF]
theorem roundF_len (l : List Int) : (roundF l).length = l.length := by simp only [roundF, quarterF_len]
theorem roundsF_len : ∀ (k : Nat) (l : List Int), (roundsF k l).length = l.length
  | 0, l => rfl
  | k + 1, l => by rw [roundsF, roundF_len, roundsF_len k l]
theorem len16 {l : List Int} (h : l.length = 16) : (true && decide (l.length = 16)) = true := by simp [h]
theorem outF_len (x s : List Int) : ∀ j, (outF x s j).length = 64
  | 0 => rfl
  | j + 1 => by rw [outF, List.length_set, outF_len x s j]
theorem bytesF_eq (l : List Int) (k : Nat) (h : k = 10) : bytesF l = outF (roundsF k l) l 64 := by subst h; exact bytesF.eq_1 l
theorem bytes_ok : SpecOK Try.prog 34 bytesS := by
  have hS : SpecsOK Try.prog [(53, quarterS)] := SpecsOK.cons quarter_ok SpecsOK.nil
  refine q_of mixed hS Try.func34 rfl rfl fun args blks K h => ?_
  split at h
  · rename_i l
    rw [ob_iff] at h
    obtain ⟨x0, x1, x2, x3, x4, x5, x6, x7, x8, x9, x10, x11, x12, x13, x14, x15, rfl⟩ := list16 (of_decide_eq_true h.1)
    refine ⟨_, rfl, h.2, rfl, (fun id st => match id with
  | 0 => .inv 10 fun k => { st with env := (8, inat k) :: keep st.env [1, 2, 3], tbl := st.tbl.set 2 (.ints true .u32 (roundsF k [x0, x1, x2, x3, x4, x5, x6, x7, x8, x9, x10, x11, x12, x13, x14, x15])) }
  | _ => .inv 64 fun j => { st with env := (19, inat j) :: keep st.env [1, 2, 3, 4], tbl := st.tbl.set 3 (.ints true .u8 (outF (gi st 2) [x0, x1, x2, x3, x4, x5, x6, x7, x8, x9, x10, x11, x12, x13, x14, x15] j)) }), ?_⟩
    rw [bytes_vf]
    refine ob_mk (beq_self_eq_true _) (ob_mk (beq_self_eq_true _) ?_)
    intro k hk
    refine bc_mk (fun hlt => ?_) (fun hge => ?_)
    · have hlt := of_decide_eq_true hlt
      have hr : roundsF (k + 1) [x0, x1, x2, x3, x4, x5, x6, x7, x8, x9, x10, x11, x12, x13, x14, x15] = roundF (roundsF k [x0, x1, x2, x3, x4, x5, x6, x7, x8, x9, x10, x11, x12, x13, x14, x15]) := by rw [roundsF]
      rw [roundF] at hr
      have h0 : (roundsF k [x0, x1, x2, x3, x4, x5, x6, x7, x8, x9, x10, x11, x12, x13, x14, x15]).length = 16 := roundsF_len k [x0, x1, x2, x3, x4, x5, x6, x7, x8, x9, x10, x11, x12, x13, x14, x15]
      generalize roundsF k [x0, x1, x2, x3, x4, x5, x6, x7, x8, x9, x10, x11, x12, x13, x14, x15] = y0 at hr h0 ⊢
      have h1 := (quarterF_len y0 0 4 8 12).trans h0
      generalize quarterF y0 0 4 8 12 = y1 at hr h1 ⊢
      have h2 := (quarterF_len y1 1 5 9 13).trans h1
      generalize quarterF y1 1 5 9 13 = y2 at hr h2 ⊢
      have h3 := (quarterF_len y2 2 6 10 14).trans h2
      generalize quarterF y2 2 6 10 14 = y3 at hr h3 ⊢
      have h4 := (quarterF_len y3 3 7 11 15).trans h3
      generalize quarterF y3 3 7 11 15 = y4 at hr h4 ⊢
      have h5 := (quarterF_len y4 0 5 10 15).trans h4
      generalize quarterF y4 0 5 10 15 = y5 at hr h5 ⊢
      have h6 := (quarterF_len y5 1 6 11 12).trans h5
      generalize quarterF y5 1 6 11 12 = y6 at hr h6 ⊢
      have h7 := (quarterF_len y6 2 7 8 13).trans h6
      generalize quarterF y6 2 7 8 13 = y7 at hr h7 ⊢
      have h8 := (quarterF_len y7 3 4 9 14).trans h7
      generalize quarterF y7 3 4 9 14 = y8 at hr h8 ⊢
      rw [hr]
      refine ob_mk (len16 h0) (ob_mk (len16 h1) (ob_mk (len16 h2) (ob_mk (len16 h3) (ob_mk (len16 h4) (ob_mk (len16 h5) (ob_mk (len16 h6) (ob_mk (len16 h7) (?_))))))))
      refine ⟨by omega, ob_mk ?_ (ob_mk (beq_self_eq_true _) (ob_mk (beq_self_eq_true _) trivial))⟩
      rw [beq_iff_eq, wrap_i64 _ (by omega) (by omega)]; omega
    · have hk10 : k = 10 := by have := of_decide_eq_false hge; omega
      have hlen : (roundsF k [x0, x1, x2, x3, x4, x5, x6, x7, x8, x9, x10, x11, x12, x13, x14, x15]).length = 16 := roundsF_len k [x0, x1, x2, x3, x4, x5, x6, x7, x8, x9, x10, x11, x12, x13, x14, x15]
      have e : bytesF [x0, x1, x2, x3, x4, x5, x6, x7, x8, x9, x10, x11, x12, x13, x14, x15] = outF (roundsF k [x0, x1, x2, x3, x4, x5, x6, x7, x8, x9, x10, x11, x12, x13, x14, x15]) [x0, x1, x2, x3, x4, x5, x6, x7, x8, x9, x10, x11, x12, x13, x14, x15] 64 := bytesF_eq _ k hk10
      generalize roundsF k [x0, x1, x2, x3, x4, x5, x6, x7, x8, x9, x10, x11, x12, x13, x14, x15] = X at e hlen ⊢
      refine ob_mk (beq_self_eq_true _) (ob_mk (beq_self_eq_true _) (ob_mk rfl ?_))
      intro j hj
      have d1 : IntKind.i64.wrap ((j : Int).tdiv 4) = ((j / 4 : Nat) : Int) := by
        rw [show (j : Int).tdiv 4 = ((j / 4 : Nat) : Int) from rfl, wrap_i64 _ (by omega) (by omega)]
      have d2 : IntKind.i64.wrap (8 * (j : Int).tmod 4) = ((8 * (j % 4) : Nat) : Int) := by
        rw [show (j : Int).tmod 4 = ((j % 4 : Nat) : Int) from rfl, wrap_i64 _ (by omega) (by omega)]; omega
      have ol := outF_len X [x0, x1, x2, x3, x4, x5, x6, x7, x8, x9, x10, x11, x12, x13, x14, x15] j
      simp only [d1, d2, Int.toNat_natCast, Nat.zero_add, Nat.mul_one]
      refine bc_mk (fun hlt => ?_) (fun hge => ?_)
      · have hlt := of_decide_eq_true hlt
        refine ob_mk (by simp; omega) (ob_mk (by simp; omega) (ob_mk (by simp; omega) (ob_mk (by simp; omega) (ob_mk (by simp; omega) (ob_mk (by simp; omega) (ob_mk (by simp; omega) ⟨by omega, ob_mk ?_ (ob_mk (beq_self_eq_true _) (ob_mk (beq_self_eq_true _) (ob_mk ?_ trivial)))⟩))))))
        · rw [beq_iff_eq, wrap_i64 _ (by omega) (by omega)]; omega
        · rw [beq_iff_eq, outF]
      · have hj64 : j = 64 := by have := of_decide_eq_false hge; omega
        refine ob_mk (by simp; omega) (ob_mk (by rw [ol]; rfl) (ob_mk (by simp; omega) ⟨?_, (by repeat' (first | exact trivial | exact rfl | apply And.intro | (intro h; exact h)))⟩))
        rw [e, hj64]
  · exact h.elim
theorem next_ok : SpecOK Try.prog 38 nextS := by
  refine q_of mixed SpecsOK.nil Try.func38 rfl rfl fun args blks K h => ?_
  split at h
  · rename_i l
    rw [ob_iff] at h
    obtain ⟨x0, x1, x2, x3, x4, x5, x6, x7, x8, x9, x10, x11, x12, x13, x14, x15, rfl⟩ := list16 (of_decide_eq_true h.1)
    refine ⟨_, rfl, h.2, rfl, noI, ?_⟩
    rw [next_vf]
    exact ⟨rfl, ⟨rfl, rfl⟩, rfl⟩
  · exact h.elim
theorem badKey_false {key nonce : ByteArray} (h : badKey key nonce = false) : key.size = 32 ∧ nonce.size = 12 := by
  unfold badKey at h
  simp only [Bool.or_eq_false_iff, Bool.not_eq_false'] at h
  exact ⟨Nat.eq_of_beq_eq_true h.1, Nat.eq_of_beq_eq_true h.2⟩
theorem badKey_true {key nonce : ByteArray} (h : badKey key nonce = true) : key.size = 32 → nonce.size ≠ 12 := by
  intro h1 h2
  unfold badKey at h
  rw [h1, h2] at h
  cases h
theorem new_ok : SpecOK Try.prog 33 newS := by
  have hS : SpecsOK Try.prog [(52, wordS)] := SpecsOK.cons word_ok SpecsOK.nil
  refine q_of mixed hS Try.func33 rfl rfl fun args blks K h => ?_
  split at h
  · rename_i key nonce n
    rw [bc_iff] at h
    by_cases hb : badKey key nonce = true
    · refine ⟨_, rfl, h.1 hb, rfl, noI, ?_⟩
      have hb := badKey_true hb
      rw [new_vf]
      refine bc_mk (fun _ => ⟨rfl, ⟨rfl, rfl⟩, rfl⟩) (fun h1 => bc_mk (fun _ => ⟨rfl, ⟨rfl, rfl⟩, rfl⟩) (fun h2 => ?_))
      exfalso
      simp at h1 h2
      exact hb (by omega) (by omega)
    · rw [Bool.not_eq_true] at hb
      refine ⟨_, rfl, h.2 hb, rfl, noI, ?_⟩
      obtain ⟨h1, h2⟩ := badKey_false hb
      rw [new_vf]
      refine bc_mk (fun h3 => ?_) (fun _ => bc_mk (fun h3 => ?_) (fun _ => ?_))
      · exfalso; simp at h3; omega
      · exfalso; simp at h3; omega
      · have k0 : (key.extract 0 key.size).size = 32 := by simp [h1]
        have k4 : (key.extract 4 key.size).size = 28 := by simp [h1]
        have k8 : (key.extract 8 key.size).size = 24 := by simp [h1]
        have k12 : (key.extract 12 key.size).size = 20 := by simp [h1]
        have k16 : (key.extract 16 key.size).size = 16 := by simp [h1]
        have k20 : (key.extract 20 key.size).size = 12 := by simp [h1]
        have k24 : (key.extract 24 key.size).size = 8 := by simp [h1]
        have k28 : (key.extract 28 key.size).size = 4 := by simp [h1]
        have n0 : (nonce.extract 0 nonce.size).size = 12 := by simp [h2]
        have n4 : (nonce.extract 4 nonce.size).size = 8 := by simp [h2]
        have n8 : (nonce.extract 8 nonce.size).size = 4 := by simp [h2]
        rw [k0, k4, k8, k12, k16, k20, k24, k28, n0, n4, n8]
        refine ob_mk rfl ?_
        refine ob_mk (by rw [h1]; rfl) (ob_mk rfl ?_)
        refine ob_mk (by rw [h1]; rfl) (ob_mk rfl ?_)
        refine ob_mk (by rw [h1]; rfl) (ob_mk rfl ?_)
        refine ob_mk (by rw [h1]; rfl) (ob_mk rfl ?_)
        refine ob_mk (by rw [h1]; rfl) (ob_mk rfl ?_)
        refine ob_mk (by rw [h1]; rfl) (ob_mk rfl ?_)
        refine ob_mk (by rw [h1]; rfl) (ob_mk rfl ?_)
        refine ob_mk rfl ?_
        refine ob_mk (by rw [h2]; rfl) (ob_mk rfl ?_)
        refine ob_mk (by rw [h2]; rfl) (ob_mk rfl ?_)
        exact ⟨rfl, ⟨rfl, rfl⟩, rfl⟩
  · exact h.elim

end Go.Proofs.Ytinmllbkdjceaaa.Sx
