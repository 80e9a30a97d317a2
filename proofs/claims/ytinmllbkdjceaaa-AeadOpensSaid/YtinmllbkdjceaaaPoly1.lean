/- Poly1305: clamped factors; words of bytes; sums and products. No condition. -/
import Derived.Test.YtinmllbkdjceaaaSx11
import Derived.Test.YtinmllbkdjceaaaProg
import Derived.Test.YtinmllbkdjceaaaBits
import Derived.Test.YtinmllbkdjceaaaWords
namespace Go.Proofs.Ytinmllbkdjceaaa.Sx
open Go Go.Proofs
set_option maxRecDepth 100000
set_option linter.unusedSimpArgs false
set_option linter.unusedVariables false

def clampL (l : List Int) : List Int := l.mapIdx fun i x => match i % 4 with | 3 => iand .u8 x 15 | 0 => (match i with | 0 => x | _ => iand .u8 x 252) | _ => x
def clampF (s : ByteArray) : ByteArray := bstr (clampL (bytesL s))
def cl1 (l : List Int) : Nat → List Int
  | 0 => l
  | k + 1 => (cl1 l k).set (3 + 4 * k) (iand .u8 ((cl1 l k).getD (3 + 4 * k) 0) 15)
def cl2 (l : List Int) : Nat → List Int
  | 0 => l
  | k + 1 => (cl2 l k).set (4 + 4 * k) (iandn .u8 ((cl2 l k).getD (4 + 4 * k) 0) 3)
def rcl (l : List Int) : Nat → List Int
  | 0 => l
  | i + 1 => if i % 4 = 3 then (rcl l i).set i (iand .u8 ((rcl l i).getD i 0) 15) else if i % 4 = 0 ∧ i ≠ 0 then (rcl l i).set i (iand .u8 ((rcl l i).getD i 0) 252) else rcl l i
def badC (s : ByteArray) : Bool := !(Nat.beq s.size 16)
def clampS : Spec := .q fun args blks K => match args, blks with
  | [.v (.string s)], [] => bc (badC s)
      (K (.tup [.v (.string ⟨#[]⟩), .v (.int .i64 2)]))
      (K (.tup [.v (.string (clampF s)), .v (.int .i64 0)]))
  | _, _ => False
theorem clamp_vf (s : ByteArray) (K : SV → List Blk → List Nat → Prop) : vf Try.prog [] (fun id st => match id with
  | 0 => .inv 4 fun k => { st with env := (5, .v (.int .i64 (3 + 4 * (k : Int)))) :: keep st.env [4], tbl := st.tbl.set 0 (.ints true .u8 (cl1 (bytesL s) k)) }
  | _ => .inv 3 fun k => { st with env := (6, .v (.int .i64 (4 + 4 * (k : Int)))) :: keep st.env [4], tbl := st.tbl.set 0 (.ints true .u8 (cl2 (gi st 0) k)) }) Try.f24 [.v (.string s)] [] K =
  (bc ((↑s.size : Int) != (16 : Int)) (K (SV.tup [SV.v (Value.string { data := { toList := [] } }), SV.v (Value.int IntKind.i64 (2 : Int))]) [] []) (ob true (ob true (ob true (ob (s.size.beq s.size) (ob (s.size.ble s.size) (ob (s.size.ble s.size) (ob true (ob true (ob (bytesL s == cl1 (bytesL s) (0 : Nat)) (∀ (k : Nat), k ≤ (4 : Nat) → bc (decide ((3 : Int) + (4 : Int) * (↑k : Int) < (16 : Int))) (ob (true && decide ((3 : Int) + (4 : Int) * (↑k : Int) < (↑s.size : Int))) (ob (decide ((0 : Nat) + ((3 : Int) + (4 : Int) * (↑k : Int)).toNat * (1 : Nat) < (cl1 (bytesL s) k).length)) (ob (true && decide ((3 : Int) + (4 : Int) * (↑k : Int) < (↑s.size : Int))) (ob (decide ((0 : Nat) + ((3 : Int) + (4 : Int) * (↑k : Int)).toNat * (1 : Nat) < (cl1 (bytesL s) k).length)) (k < (4 : Nat) ∧ ob (IntKind.i64.wrap ((3 : Int) + (4 : Int) * (↑k : Int) + (4 : Int)) == (3 : Int) + (4 : Int) * (↑(k + (1 : Nat)) : Int)) (ob true (ob true (ob (s.size.beq s.size) (ob (s.size.ble s.size) (ob (s.size.ble s.size) (ob true (ob true (ob ((cl1 (bytesL s) k).set ((0 : Nat) + ((3 : Int) + (4 : Int) * (↑k : Int)).toNat * (1 : Nat)) (iand IntKind.u8 ((cl1 (bytesL s) k).getD ((0 : Nat) + ((3 : Int) + (4 : Int) * (↑k : Int)).toNat * (1 : Nat)) (0 : Int)) (15 : Int)) == cl1 (bytesL s) (k + (1 : Nat))) True))))))))))))) (ob true (ob true (ob true (ob (s.size.beq s.size) (ob (s.size.ble s.size) (ob (s.size.ble s.size) (ob true (ob true (ob (cl1 (bytesL s) k == cl2 (cl1 (bytesL s) k) (0 : Nat)) (∀ (k_1 : Nat), k_1 ≤ (3 : Nat) → bc (decide ((4 : Int) + (4 : Int) * (↑k_1 : Int) < (16 : Int))) (ob (true && decide ((4 : Int) + (4 : Int) * (↑k_1 : Int) < (↑s.size : Int))) (ob (decide ((0 : Nat) + ((4 : Int) + (4 : Int) * (↑k_1 : Int)).toNat * (1 : Nat) < (cl2 (cl1 (bytesL s) k) k_1).length)) (ob (true && decide ((4 : Int) + (4 : Int) * (↑k_1 : Int) < (↑s.size : Int))) (ob (decide ((0 : Nat) + ((4 : Int) + (4 : Int) * (↑k_1 : Int)).toNat * (1 : Nat) < (cl2 (cl1 (bytesL s) k) k_1).length)) (k_1 < (3 : Nat) ∧ ob (IntKind.i64.wrap ((4 : Int) + (4 : Int) * (↑k_1 : Int) + (4 : Int)) == (4 : Int) + (4 : Int) * (↑(k_1 + (1 : Nat)) : Int)) (ob true (ob true (ob (s.size.beq s.size) (ob (s.size.ble s.size) (ob (s.size.ble s.size) (ob true (ob true (ob ((cl2 (cl1 (bytesL s) k) k_1).set ((0 : Nat) + ((4 : Int) + (4 : Int) * (↑k_1 : Int)).toNat * (1 : Nat)) (iandn IntKind.u8 ((cl2 (cl1 (bytesL s) k) k_1).getD ((0 : Nat) + ((4 : Int) + (4 : Int) * (↑k_1 : Int)).toNat * (1 : Nat)) (0 : Int)) (3 : Int)) == cl2 (cl1 (bytesL s) k) (k_1 + (1 : Nat))) True))))))))))))) (ob (decide ((0 : Nat) + s.size ≤ (cl2 (cl1 (bytesL s) k) k_1).length)) (K (SV.tup [SV.v (Value.string (bstr (List.take s.size (List.drop (0 : Nat) (cl2 (cl1 (bytesL s) k) k_1))))), SV.v (Value.int IntKind.i64 (0 : Int))]) [Blk.ints true IntKind.u8 (cl2 (cl1 (bytesL s) k) k_1)] []))))))))))))))))))))))) := by kernel_rfl
theorem rclamp_vf (s : ByteArray) (K : SV → List Blk → List Nat → Prop) : vf Try.prog [] (fun _ st => .inv 16 fun k => { st with env := (5, inat k) :: keep st.env [4], tbl := st.tbl.set 0 (.ints true .u8 (rcl (bytesL s) k)) }) Try.f25 [.v (.string s)] [] K =
  (bc ((↑s.size : Int) != (16 : Int)) (K (SV.tup [SV.v (Value.string { data := { toList := [] } }), SV.v (Value.int IntKind.i64 (2 : Int))]) [] []) (ob true (ob true (ob true (ob (s.size.beq s.size) (ob (s.size.ble s.size) (ob (s.size.ble s.size) (ob true (ob true (ob (bytesL s == rcl (bytesL s) (0 : Nat)) (∀ (k : Nat), k ≤ (16 : Nat) → bc (decide ((↑k : Int) < (16 : Int))) (bc ((↑k : Int) == (3 : Int)) (ob (true && decide ((↑k : Int) < (↑s.size : Int))) (ob (decide ((0 : Nat) + (↑k : Int).toNat * (1 : Nat) < (rcl (bytesL s) k).length)) (ob (true && decide ((↑k : Int) < (↑s.size : Int))) (ob (decide ((0 : Nat) + (↑k : Int).toNat * (1 : Nat) < (rcl (bytesL s) k).length)) (k < (16 : Nat) ∧ ob (IntKind.i64.wrap ((↑k : Int) + (1 : Int)) == (↑(k + (1 : Nat)) : Int)) (ob true (ob true (ob (s.size.beq s.size) (ob (s.size.ble s.size) (ob (s.size.ble s.size) (ob true (ob true (ob ((rcl (bytesL s) k).set ((0 : Nat) + (↑k : Int).toNat * (1 : Nat)) (iand IntKind.u8 ((rcl (bytesL s) k).getD ((0 : Nat) + (↑k : Int).toNat * (1 : Nat)) (0 : Int)) (15 : Int)) == rcl (bytesL s) (k + (1 : Nat))) True))))))))))))) (bc ((↑k : Int) == (7 : Int)) (ob (true && decide ((↑k : Int) < (↑s.size : Int))) (ob (decide ((0 : Nat) + (↑k : Int).toNat * (1 : Nat) < (rcl (bytesL s) k).length)) (ob (true && decide ((↑k : Int) < (↑s.size : Int))) (ob (decide ((0 : Nat) + (↑k : Int).toNat * (1 : Nat) < (rcl (bytesL s) k).length)) (k < (16 : Nat) ∧ ob (IntKind.i64.wrap ((↑k : Int) + (1 : Int)) == (↑(k + (1 : Nat)) : Int)) (ob true (ob true (ob (s.size.beq s.size) (ob (s.size.ble s.size) (ob (s.size.ble s.size) (ob true (ob true (ob ((rcl (bytesL s) k).set ((0 : Nat) + (↑k : Int).toNat * (1 : Nat)) (iand IntKind.u8 ((rcl (bytesL s) k).getD ((0 : Nat) + (↑k : Int).toNat * (1 : Nat)) (0 : Int)) (15 : Int)) == rcl (bytesL s) (k + (1 : Nat))) True))))))))))))) (bc ((↑k : Int) == (11 : Int)) (ob (true && decide ((↑k : Int) < (↑s.size : Int))) (ob (decide ((0 : Nat) + (↑k : Int).toNat * (1 : Nat) < (rcl (bytesL s) k).length)) (ob (true && decide ((↑k : Int) < (↑s.size : Int))) (ob (decide ((0 : Nat) + (↑k : Int).toNat * (1 : Nat) < (rcl (bytesL s) k).length)) (k < (16 : Nat) ∧ ob (IntKind.i64.wrap ((↑k : Int) + (1 : Int)) == (↑(k + (1 : Nat)) : Int)) (ob true (ob true (ob (s.size.beq s.size) (ob (s.size.ble s.size) (ob (s.size.ble s.size) (ob true (ob true (ob ((rcl (bytesL s) k).set ((0 : Nat) + (↑k : Int).toNat * (1 : Nat)) (iand IntKind.u8 ((rcl (bytesL s) k).getD ((0 : Nat) + (↑k : Int).toNat * (1 : Nat)) (0 : Int)) (15 : Int)) == rcl (bytesL s) (k + (1 : Nat))) True))))))))))))) (bc ((↑k : Int) == (15 : Int)) (ob (true && decide ((↑k : Int) < (↑s.size : Int))) (ob (decide ((0 : Nat) + (↑k : Int).toNat * (1 : Nat) < (rcl (bytesL s) k).length)) (ob (true && decide ((↑k : Int) < (↑s.size : Int))) (ob (decide ((0 : Nat) + (↑k : Int).toNat * (1 : Nat) < (rcl (bytesL s) k).length)) (k < (16 : Nat) ∧ ob (IntKind.i64.wrap ((↑k : Int) + (1 : Int)) == (↑(k + (1 : Nat)) : Int)) (ob true (ob true (ob (s.size.beq s.size) (ob (s.size.ble s.size) (ob (s.size.ble s.size) (ob true (ob true (ob ((rcl (bytesL s) k).set ((0 : Nat) + (↑k : Int).toNat * (1 : Nat)) (iand IntKind.u8 ((rcl (bytesL s) k).getD ((0 : Nat) + (↑k : Int).toNat * (1 : Nat)) (0 : Int)) (15 : Int)) == rcl (bytesL s) (k + (1 : Nat))) True))))))))))))) (bc ((↑k : Int) == (4 : Int)) (ob (true && decide ((↑k : Int) < (↑s.size : Int))) (ob (decide ((0 : Nat) + (↑k : Int).toNat * (1 : Nat) < (rcl (bytesL s) k).length)) (ob (true && decide ((↑k : Int) < (↑s.size : Int))) (ob (decide ((0 : Nat) + (↑k : Int).toNat * (1 : Nat) < (rcl (bytesL s) k).length)) (k < (16 : Nat) ∧ ob (IntKind.i64.wrap ((↑k : Int) + (1 : Int)) == (↑(k + (1 : Nat)) : Int)) (ob true (ob true (ob (s.size.beq s.size) (ob (s.size.ble s.size) (ob (s.size.ble s.size) (ob true (ob true (ob ((rcl (bytesL s) k).set ((0 : Nat) + (↑k : Int).toNat * (1 : Nat)) (iand IntKind.u8 ((rcl (bytesL s) k).getD ((0 : Nat) + (↑k : Int).toNat * (1 : Nat)) (0 : Int)) (252 : Int)) == rcl (bytesL s) (k + (1 : Nat))) True))))))))))))) (bc ((↑k : Int) == (8 : Int)) (ob (true && decide ((↑k : Int) < (↑s.size : Int))) (ob (decide ((0 : Nat) + (↑k : Int).toNat * (1 : Nat) < (rcl (bytesL s) k).length)) (ob (true && decide ((↑k : Int) < (↑s.size : Int))) (ob (decide ((0 : Nat) + (↑k : Int).toNat * (1 : Nat) < (rcl (bytesL s) k).length)) (k < (16 : Nat) ∧ ob (IntKind.i64.wrap ((↑k : Int) + (1 : Int)) == (↑(k + (1 : Nat)) : Int)) (ob true (ob true (ob (s.size.beq s.size) (ob (s.size.ble s.size) (ob (s.size.ble s.size) (ob true (ob true (ob ((rcl (bytesL s) k).set ((0 : Nat) + (↑k : Int).toNat * (1 : Nat)) (iand IntKind.u8 ((rcl (bytesL s) k).getD ((0 : Nat) + (↑k : Int).toNat * (1 : Nat)) (0 : Int)) (252 : Int)) == rcl (bytesL s) (k + (1 : Nat))) True))))))))))))) (bc ((↑k : Int) == (12 : Int)) (ob (true && decide ((↑k : Int) < (↑s.size : Int))) (ob (decide ((0 : Nat) + (↑k : Int).toNat * (1 : Nat) < (rcl (bytesL s) k).length)) (ob (true && decide ((↑k : Int) < (↑s.size : Int))) (ob (decide ((0 : Nat) + (↑k : Int).toNat * (1 : Nat) < (rcl (bytesL s) k).length)) (k < (16 : Nat) ∧ ob (IntKind.i64.wrap ((↑k : Int) + (1 : Int)) == (↑(k + (1 : Nat)) : Int)) (ob true (ob true (ob (s.size.beq s.size) (ob (s.size.ble s.size) (ob (s.size.ble s.size) (ob true (ob true (ob ((rcl (bytesL s) k).set ((0 : Nat) + (↑k : Int).toNat * (1 : Nat)) (iand IntKind.u8 ((rcl (bytesL s) k).getD ((0 : Nat) + (↑k : Int).toNat * (1 : Nat)) (0 : Int)) (252 : Int)) == rcl (bytesL s) (k + (1 : Nat))) True))))))))))))) (k < (16 : Nat) ∧ ob (IntKind.i64.wrap ((↑k : Int) + (1 : Int)) == (↑(k + (1 : Nat)) : Int)) (ob true (ob true (ob (s.size.beq s.size) (ob (s.size.ble s.size) (ob (s.size.ble s.size) (ob true (ob true (ob (rcl (bytesL s) k == rcl (bytesL s) (k + (1 : Nat))) True)))))))))))))))) (ob (decide ((0 : Nat) + s.size ≤ (rcl (bytesL s) k).length)) (K (SV.tup [SV.v (Value.string (bstr (List.take s.size (List.drop (0 : Nat) (rcl (bytesL s) k))))), SV.v (Value.int IntKind.i64 (0 : Int))]) [Blk.ints true IntKind.u8 (rcl (bytesL s) k)] []))))))))))))) := by kernel_rfl
def pwordS : Spec := .q fun args blks K => match args, blks with
  | [.slc 0 off len cap 1], [.ints _ .u8 l] => ob (decide (8 ≤ cap) && decide (len ≤ cap) && decide (off + 8 ≤ l.length) && okB l) (K (.v (.int .u64 (numK l off 8))))
  | _, _ => False
theorem pword_vf (off len cap : Nat) (w : Bool) (l : List Int) (K : SV → List Blk → List Nat → Prop) : vf Try.prog [] (fun _ st => .inv 8 fun k => { st with env := (9, inat k) :: (3, .v (.int .u64 (numK l off k))) :: keep st.env [0, 2, 7, 8] }) Try.f55 [.slc 0 off len cap 1] [.ints w .u8 l] K =
  (ob (true && decide ((8 : Int) ≤ (↑cap : Int))) (ob true (ob ((0 : Int) == numK l off (0 : Nat)) (ob true (ob (off.beq off) (ob (len.beq len) (ob (cap.ble cap) (ob (len.ble cap) (ob true (ob true (ob true (ob (off.beq off) (ob true (ob (cap.ble cap) (ob (Nat.ble (8 : Nat) cap) (ob true (ob true (ob (!w || w) (ob (l == l) (∀ (k : Nat), k ≤ (8 : Nat) → bc (decide ((↑k : Int) < (8 : Int))) (ob (true && decide ((↑k : Int) < (8 : Int))) (ob (decide (off + (↑k : Int).toNat * (1 : Nat) < l.length)) (ob (decide ((0 : Int) ≤ IntKind.i64.wrap ((8 : Int) * (↑k : Int)))) (k < (8 : Nat) ∧ ob (IntKind.i64.wrap ((↑k : Int) + (1 : Int)) == (↑(k + (1 : Nat)) : Int)) (ob (ior IntKind.u64 (numK l off k) (ishl IntKind.u64 (IntKind.u64.wrap (l.getD (off + (↑k : Int).toNat * (1 : Nat)) (0 : Int))) (IntKind.i64.wrap ((8 : Int) * (↑k : Int)))) == numK l off (k + (1 : Nat))) (ob true (ob (off.beq off) (ob (len.beq len) (ob (cap.ble cap) (ob (len.ble cap) (ob true (ob true (ob true (ob (off.beq off) (ob true (ob (cap.ble cap) (ob (Nat.ble (8 : Nat) cap) (ob true (ob true (ob (!w || w) (ob (l == l) True))))))))))))))))))))) (K (SV.v (Value.int IntKind.u64 (numK l off k))) [Blk.ints w IntKind.u8 l] []))))))))))))))))))))) := by kernel_rfl
def sumS : Spec := .q fun args blks K => match args, blks with
  | [.v (.int .u64 a), .v (.int .u64 b), .v (.int .u64 c), .v (.int .u64 d)], [] => ob (decide (0 ≤ a) && decide (a < 18446744073709551616) && decide (0 ≤ b) && decide (b < 18446744073709551616) && decide (0 ≤ c) && decide (c < 18446744073709551616) && decide (0 ≤ d) && decide (d < 18446744073709551616))
      (K (.tup [.v (.int .u64 ((a * b + c * d) / 18446744073709551616 % 18446744073709551616)), .v (.int .u64 ((a * b + c * d) % 18446744073709551616))]))
  | _, _ => False
theorem psum_vf (a b c d : Int) (K : SV → List Blk → List Nat → Prop) : vf Try.prog [(69, mul64S), (58, add64S)] (noI) Try.f70 [.v (.int .u64 a), .v (.int .u64 b), .v (.int .u64 c), .v (.int .u64 d)] [] K =
  (ob (decide ((0 : Int) ≤ a) && decide (a < (18446744073709551616 : Int)) && decide ((0 : Int) ≤ b) && decide (b < (18446744073709551616 : Int))) (ob (decide ((0 : Int) ≤ c) && decide (c < (18446744073709551616 : Int)) && decide ((0 : Int) ≤ d) && decide (d < (18446744073709551616 : Int))) (ob (decide ((0 : Int) ≤ a * b % (18446744073709551616 : Int)) && decide ((0 : Int) ≤ c * d % (18446744073709551616 : Int)) && true && true) (K (SV.tup [SV.v (Value.int IntKind.u64 (IntKind.u64.wrap (IntKind.u64.wrap (a * b / (18446744073709551616 : Int) + c * d / (18446744073709551616 : Int)) + (a * b % (18446744073709551616 : Int) + c * d % (18446744073709551616 : Int) + (0 : Int)) / (18446744073709551616 : Int)))), SV.v (Value.int IntKind.u64 ((a * b % (18446744073709551616 : Int) + c * d % (18446744073709551616 : Int) + (0 : Int)) % (18446744073709551616 : Int)))]) [] [])))) := by kernel_rfl
theorem cl1_len (l : List Int) : ∀ k, (cl1 l k).length = l.length
  | 0 => by rw [cl1]
  | k + 1 => by rw [cl1, List.length_set, cl1_len l k]
theorem cl2_len (l : List Int) : ∀ k, (cl2 l k).length = l.length
  | 0 => by rw [cl2]
  | k + 1 => by rw [cl2, List.length_set, cl2_len l k]
theorem rcl_len (l : List Int) : ∀ k, (rcl l k).length = l.length
  | 0 => by rw [rcl]
  | k + 1 => by
    rw [rcl]
    split
    · rw [List.length_set, rcl_len l k]
    · split
      · rw [List.length_set, rcl_len l k]
      · exact rcl_len l k
theorem lst16 {l : List Int} (h : l.length = 16) : ∃ x0 x1 x2 x3 x4 x5 x6 x7 x8 x9 x10 x11 x12 x13 x14 x15, l = [x0, x1, x2, x3, x4, x5, x6, x7, x8, x9, x10, x11, x12, x13, x14, x15] := by
  match l, h with
  | [x0, x1, x2, x3, x4, x5, x6, x7, x8, x9, x10, x11, x12, x13, x14, x15], _ => exact ⟨_, _, _, _, _, _, _, _, _, _, _, _, _, _, _, _, rfl⟩
theorem iandn3 (x : Int) : iandn .u8 x 3 = iand .u8 x 252 := by
  unfold iandn iand
  rw [show (~~~ BitVec.ofInt IntKind.u8.bits 3 : BitVec IntKind.u8.bits) = BitVec.ofInt IntKind.u8.bits 252 from by decide]
theorem cl_eq (l : List Int) (h : l.length = 16) : cl2 (cl1 l 4) 3 = clampL l := by
  obtain ⟨x0, x1, x2, x3, x4, x5, x6, x7, x8, x9, x10, x11, x12, x13, x14, x15, rfl⟩ := lst16 h
  simp [cl1, cl2, clampL, iandn3, List.mapIdx, List.mapIdx.go]
theorem rcl_eq (l : List Int) (h : l.length = 16) : rcl l 16 = clampL l := by
  obtain ⟨x0, x1, x2, x3, x4, x5, x6, x7, x8, x9, x10, x11, x12, x13, x14, x15, rfl⟩ := lst16 h
  simp [rcl, clampL, List.mapIdx, List.mapIdx.go]
theorem badC_false {s : ByteArray} (h : badC s = false) : s.size = 16 := by
  unfold badC at h
  simp only [Bool.not_eq_false'] at h
  exact Nat.eq_of_beq_eq_true h
theorem badC_true {s : ByteArray} (h : badC s = true) : s.size ≠ 16 := by
  intro h1
  unfold badC at h
  rw [h1] at h
  cases h
theorem clamp_ok : SpecOK Try.prog 24 clampS := by
  refine q_of mixed SpecsOK.nil Try.func24 rfl rfl fun args blks K h => ?_
  split at h
  · rename_i s
    rw [bc_iff] at h
    by_cases hk : badC s = true
    · refine ⟨_, rfl, h.1 hk, rfl, (fun id st => match id with
  | 0 => .inv 4 fun k => { st with env := (5, .v (.int .i64 (3 + 4 * (k : Int)))) :: keep st.env [4], tbl := st.tbl.set 0 (.ints true .u8 (cl1 (bytesL s) k)) }
  | _ => .inv 3 fun k => { st with env := (6, .v (.int .i64 (4 + 4 * (k : Int)))) :: keep st.env [4], tbl := st.tbl.set 0 (.ints true .u8 (cl2 (gi st 0) k)) }), ?_⟩
      have hb := badC_true hk
      rw [clamp_vf]
      refine bc_mk (fun _ => (by repeat' (first | exact trivial | exact rfl | apply And.intro | (intro h; exact h)))) (fun h1 => ?_)
      exfalso; simp at h1; omega
    · rw [Bool.not_eq_true] at hk
      refine ⟨_, rfl, h.2 hk, rfl, (fun id st => match id with
  | 0 => .inv 4 fun k => { st with env := (5, .v (.int .i64 (3 + 4 * (k : Int)))) :: keep st.env [4], tbl := st.tbl.set 0 (.ints true .u8 (cl1 (bytesL s) k)) }
  | _ => .inv 3 fun k => { st with env := (6, .v (.int .i64 (4 + 4 * (k : Int)))) :: keep st.env [4], tbl := st.tbl.set 0 (.ints true .u8 (cl2 (gi st 0) k)) }), ?_⟩
      have hz := badC_false hk
      rw [clamp_vf]
      refine bc_mk (fun h1 => ?_) (fun _ => ?_)
      · exfalso; simp at h1; omega
      have hl : (bytesL s).length = 16 := (bytesL_len s).trans hz
      have hF : clampF s = bstr (clampL (bytesL s)) := by rw [clampF]
      rw [hz]
      generalize bytesL s = b at *
      have h0 : cl1 b 0 = b := by rw [cl1]
      (repeat (first | (with_reducible refine ob_true ?_) | refine ob_mk (by first | (with_reducible exact beq_self_eq_true _) | (with_reducible exact nbeq _) | (with_reducible exact nble _) | (with_reducible exact seq_rfl _) | (with_reducible assumption) | (simp only [decide_eq_true_eq, Bool.and_eq_true, beq_iff_eq, Bool.true_and, Bool.and_true, Nat.beq_eq, Nat.ble_eq, true_and, and_true, ge_iff_le, gt_iff_lt, h0]; first | done | omega)) ?_))
      intro k hk
      have hkl : (cl1 b k).length = 16 := (cl1_len b k).trans hl
      have hs : cl1 b (k + 1) = (cl1 b k).set (3 + 4 * k) (iand .u8 ((cl1 b k).getD (3 + 4 * k) 0) 15) := by rw [cl1]
      have e1 : 0 + ((3 : Int) + 4 * (k : Int)).toNat * 1 = 3 + 4 * k := by omega
      have e2 : IntKind.i64.wrap ((3 : Int) + 4 * (k : Int) + 4) = 3 + 4 * ((k + 1 : Nat) : Int) := by rw [wrap_i64 _ (by omega) (by omega)]; omega
      rw [e1, e2]
      refine bc_mk (fun hlt => ?_) (fun hge => ?_)
      · have hlt := of_decide_eq_true hlt
        rw [hs]
        (repeat (first | (with_reducible refine ob_true ?_) | refine ob_mk (by first | (with_reducible exact beq_self_eq_true _) | (with_reducible exact nbeq _) | (with_reducible exact nble _) | (with_reducible exact seq_rfl _) | (with_reducible assumption) | (simp only [decide_eq_true_eq, Bool.and_eq_true, beq_iff_eq, Bool.true_and, Bool.and_true, Nat.beq_eq, Nat.ble_eq, true_and, and_true, ge_iff_le, gt_iff_lt, hkl]; first | done | omega)) ?_))
        refine ⟨by omega, ?_⟩
        (repeat (first | (with_reducible refine ob_true ?_) | refine ob_mk (by first | (with_reducible exact beq_self_eq_true _) | (with_reducible exact nbeq _) | (with_reducible exact nble _) | (with_reducible exact seq_rfl _) | (with_reducible assumption) | (simp only [decide_eq_true_eq, Bool.and_eq_true, beq_iff_eq, Bool.true_and, Bool.and_true, Nat.beq_eq, Nat.ble_eq, true_and, and_true, ge_iff_le, gt_iff_lt]; first | done | omega)) ?_))
        trivial
      · have hge := of_decide_eq_false hge
        have k4 : k = 4 := by omega
        have hE : cl2 (cl1 b k) 3 = clampL b := by rw [k4]; exact cl_eq b hl
        generalize cl1 b k = c at *
        have h0 : cl2 c 0 = c := by rw [cl2]
        (repeat (first | (with_reducible refine ob_true ?_) | refine ob_mk (by first | (with_reducible exact beq_self_eq_true _) | (with_reducible exact nbeq _) | (with_reducible exact nble _) | (with_reducible exact seq_rfl _) | (with_reducible assumption) | (simp only [decide_eq_true_eq, Bool.and_eq_true, beq_iff_eq, Bool.true_and, Bool.and_true, Nat.beq_eq, Nat.ble_eq, true_and, and_true, ge_iff_le, gt_iff_lt, h0]; first | done | omega)) ?_))
        intro j hj
        have hjl : (cl2 c j).length = 16 := (cl2_len c j).trans hkl
        have hs : cl2 c (j + 1) = (cl2 c j).set (4 + 4 * j) (iandn .u8 ((cl2 c j).getD (4 + 4 * j) 0) 3) := by rw [cl2]
        have e1 : 0 + ((4 : Int) + 4 * (j : Int)).toNat * 1 = 4 + 4 * j := by omega
        have e2 : IntKind.i64.wrap ((4 : Int) + 4 * (j : Int) + 4) = 4 + 4 * ((j + 1 : Nat) : Int) := by rw [wrap_i64 _ (by omega) (by omega)]; omega
        rw [e1, e2]
        refine bc_mk (fun hlt => ?_) (fun hge => ?_)
        · have hlt := of_decide_eq_true hlt
          rw [hs]
          (repeat (first | (with_reducible refine ob_true ?_) | refine ob_mk (by first | (with_reducible exact beq_self_eq_true _) | (with_reducible exact nbeq _) | (with_reducible exact nble _) | (with_reducible exact seq_rfl _) | (with_reducible assumption) | (simp only [decide_eq_true_eq, Bool.and_eq_true, beq_iff_eq, Bool.true_and, Bool.and_true, Nat.beq_eq, Nat.ble_eq, true_and, and_true, ge_iff_le, gt_iff_lt, hjl]; first | done | omega)) ?_))
          refine ⟨by omega, ?_⟩
          (repeat (first | (with_reducible refine ob_true ?_) | refine ob_mk (by first | (with_reducible exact beq_self_eq_true _) | (with_reducible exact nbeq _) | (with_reducible exact nble _) | (with_reducible exact seq_rfl _) | (with_reducible assumption) | (simp only [decide_eq_true_eq, Bool.and_eq_true, beq_iff_eq, Bool.true_and, Bool.and_true, Nat.beq_eq, Nat.ble_eq, true_and, and_true, ge_iff_le, gt_iff_lt]; first | done | omega)) ?_))
          trivial
        · have hge := of_decide_eq_false hge
          have j3 : j = 3 := by omega
          rw [← j3] at hE
          (repeat (first | (with_reducible refine ob_true ?_) | refine ob_mk (by first | (with_reducible exact beq_self_eq_true _) | (with_reducible exact nbeq _) | (with_reducible exact nble _) | (with_reducible exact seq_rfl _) | (with_reducible assumption) | (simp only [decide_eq_true_eq, Bool.and_eq_true, beq_iff_eq, Bool.true_and, Bool.and_true, Nat.beq_eq, Nat.ble_eq, true_and, and_true, ge_iff_le, gt_iff_lt, hjl]; first | done | omega)) ?_))
          refine ⟨?_, (by repeat' (first | exact trivial | exact rfl | apply And.intro | (intro h; exact h)))⟩
          rw [hF, List.drop_zero, List.take_of_length_le (by omega), hE]
  · exact h.elim
theorem rclamp_ok : SpecOK Try.prog 25 clampS := by
  refine q_of mixed SpecsOK.nil Try.func25 rfl rfl fun args blks K h => ?_
  split at h
  · rename_i s
    rw [bc_iff] at h
    by_cases hk : badC s = true
    · refine ⟨_, rfl, h.1 hk, rfl, (fun _ st => .inv 16 fun k => { st with env := (5, inat k) :: keep st.env [4], tbl := st.tbl.set 0 (.ints true .u8 (rcl (bytesL s) k)) }), ?_⟩
      have hb := badC_true hk
      rw [rclamp_vf]
      refine bc_mk (fun _ => (by repeat' (first | exact trivial | exact rfl | apply And.intro | (intro h; exact h)))) (fun h1 => ?_)
      exfalso; simp at h1; omega
    · rw [Bool.not_eq_true] at hk
      refine ⟨_, rfl, h.2 hk, rfl, (fun _ st => .inv 16 fun k => { st with env := (5, inat k) :: keep st.env [4], tbl := st.tbl.set 0 (.ints true .u8 (rcl (bytesL s) k)) }), ?_⟩
      have hz := badC_false hk
      rw [rclamp_vf]
      refine bc_mk (fun h1 => ?_) (fun _ => ?_)
      · exfalso; simp at h1; omega
      have hl : (bytesL s).length = 16 := (bytesL_len s).trans hz
      have hF : clampF s = bstr (clampL (bytesL s)) := by rw [clampF]
      rw [hz]
      generalize bytesL s = b at *
      have h0 : rcl b 0 = b := by rw [rcl]
      (repeat (first | (with_reducible refine ob_true ?_) | refine ob_mk (by first | (with_reducible exact beq_self_eq_true _) | (with_reducible exact nbeq _) | (with_reducible exact nble _) | (with_reducible exact seq_rfl _) | (with_reducible assumption) | (simp only [decide_eq_true_eq, Bool.and_eq_true, beq_iff_eq, Bool.true_and, Bool.and_true, Nat.beq_eq, Nat.ble_eq, true_and, and_true, ge_iff_le, gt_iff_lt, h0]; first | done | omega)) ?_))
      intro k hk
      have hkl : (rcl b k).length = 16 := (rcl_len b k).trans hl
      have hs : rcl b (k + 1) = if k % 4 = 3 then (rcl b k).set k (iand .u8 ((rcl b k).getD k 0) 15) else if k % 4 = 0 ∧ k ≠ 0 then (rcl b k).set k (iand .u8 ((rcl b k).getD k 0) 252) else rcl b k := by rw [rcl]
      have e1 : 0 + (k : Int).toNat * 1 = k := by omega
      rw [e1]
      have e2 : k < 16 → IntKind.i64.wrap ((k : Int) + 1) = ((k + 1 : Nat) : Int) := by intro h; rw [wrap_i64 _ (by omega) (by omega)]; omega
      refine bc_mk (fun hlt => ?_) (fun hge => ?_)
      · have hlt := of_decide_eq_true hlt
        rw [e2 (by omega)]
        refine bc_mk (fun c => ?_) (fun c1 => bc_mk (fun c => ?_) (fun c2 => bc_mk (fun c => ?_) (fun c3 => bc_mk (fun c => ?_) (fun c4 => bc_mk (fun c => ?_) (fun c5 => bc_mk (fun c => ?_) (fun c6 => bc_mk (fun c => ?_) (fun c7 => ?_)))))))
        iterate 4
          · rw [beq_iff_eq] at c
            rw [if_pos (by omega)] at hs
            rw [hs]
            (repeat (first | (with_reducible refine ob_true ?_) | refine ob_mk (by first | (with_reducible exact beq_self_eq_true _) | (with_reducible exact nbeq _) | (with_reducible exact nble _) | (with_reducible exact seq_rfl _) | (with_reducible assumption) | (simp only [decide_eq_true_eq, Bool.and_eq_true, beq_iff_eq, Bool.true_and, Bool.and_true, Nat.beq_eq, Nat.ble_eq, true_and, and_true, ge_iff_le, gt_iff_lt, hkl]; first | done | omega)) ?_))
            refine ⟨by omega, ?_⟩
            (repeat (first | (with_reducible refine ob_true ?_) | refine ob_mk (by first | (with_reducible exact beq_self_eq_true _) | (with_reducible exact nbeq _) | (with_reducible exact nble _) | (with_reducible exact seq_rfl _) | (with_reducible assumption) | (simp only [decide_eq_true_eq, Bool.and_eq_true, beq_iff_eq, Bool.true_and, Bool.and_true, Nat.beq_eq, Nat.ble_eq, true_and, and_true, ge_iff_le, gt_iff_lt]; first | done | omega)) ?_))
            trivial
        iterate 3
          · rw [beq_iff_eq] at c
            rw [if_neg (by omega), if_pos (by omega)] at hs
            rw [hs]
            (repeat (first | (with_reducible refine ob_true ?_) | refine ob_mk (by first | (with_reducible exact beq_self_eq_true _) | (with_reducible exact nbeq _) | (with_reducible exact nble _) | (with_reducible exact seq_rfl _) | (with_reducible assumption) | (simp only [decide_eq_true_eq, Bool.and_eq_true, beq_iff_eq, Bool.true_and, Bool.and_true, Nat.beq_eq, Nat.ble_eq, true_and, and_true, ge_iff_le, gt_iff_lt, hkl]; first | done | omega)) ?_))
            refine ⟨by omega, ?_⟩
            (repeat (first | (with_reducible refine ob_true ?_) | refine ob_mk (by first | (with_reducible exact beq_self_eq_true _) | (with_reducible exact nbeq _) | (with_reducible exact nble _) | (with_reducible exact seq_rfl _) | (with_reducible assumption) | (simp only [decide_eq_true_eq, Bool.and_eq_true, beq_iff_eq, Bool.true_and, Bool.and_true, Nat.beq_eq, Nat.ble_eq, true_and, and_true, ge_iff_le, gt_iff_lt]; first | done | omega)) ?_))
            trivial
        · simp only [beq_eq_false_iff_ne, ne_eq] at c1 c2 c3 c4 c5 c6 c7
          rw [if_neg (by omega), if_neg (by omega)] at hs
          rw [hs]
          refine ⟨by omega, ?_⟩
          (repeat (first | (with_reducible refine ob_true ?_) | refine ob_mk (by first | (with_reducible exact beq_self_eq_true _) | (with_reducible exact nbeq _) | (with_reducible exact nble _) | (with_reducible exact seq_rfl _) | (with_reducible assumption) | (simp only [decide_eq_true_eq, Bool.and_eq_true, beq_iff_eq, Bool.true_and, Bool.and_true, Nat.beq_eq, Nat.ble_eq, true_and, and_true, ge_iff_le, gt_iff_lt]; first | done | omega)) ?_))
          trivial
      · have hge := of_decide_eq_false hge
        have k16 : k = 16 := by omega
        have hE : rcl b k = clampL b := by rw [k16]; exact rcl_eq b hl
        (repeat (first | (with_reducible refine ob_true ?_) | refine ob_mk (by first | (with_reducible exact beq_self_eq_true _) | (with_reducible exact nbeq _) | (with_reducible exact nble _) | (with_reducible exact seq_rfl _) | (with_reducible assumption) | (simp only [decide_eq_true_eq, Bool.and_eq_true, beq_iff_eq, Bool.true_and, Bool.and_true, Nat.beq_eq, Nat.ble_eq, true_and, and_true, ge_iff_le, gt_iff_lt, hkl]; first | done | omega)) ?_))
        refine ⟨?_, (by repeat' (first | exact trivial | exact rfl | apply And.intro | (intro h; exact h)))⟩
        rw [hF, List.drop_zero, List.take_of_length_le (by omega), hE]
  · exact h.elim
theorem pword_ok : SpecOK Try.prog 55 pwordS := by
  refine q_of mixed SpecsOK.nil Try.func55 rfl rfl fun args blks K h => ?_
  split at h
  · rename_i off len cap w l
    rw [ob_iff] at h
    obtain ⟨hb, hg⟩ := h
    simp only [Bool.and_eq_true, decide_eq_true_eq] at hb
    obtain ⟨⟨⟨hc, hlc⟩, hl⟩, hB⟩ := hb
    refine ⟨_, rfl, hg, rfl, (fun _ st => .inv 8 fun k => { st with env := (9, inat k) :: (3, .v (.int .u64 (numK l off k))) :: keep st.env [0, 2, 7, 8] }), ?_⟩
    rw [pword_vf]
    have h0 : numK l off 0 = 0 := by rw [numK]
    have hw : (!w || w) = true := by cases w <;> rfl
    (repeat (first | (with_reducible refine ob_true ?_) | refine ob_mk (by first | (with_reducible exact beq_self_eq_true _) | (with_reducible exact nbeq _) | (with_reducible exact nble _) | (with_reducible exact seq_rfl _) | (with_reducible assumption) | (simp only [decide_eq_true_eq, Bool.and_eq_true, beq_iff_eq, Bool.true_and, Bool.and_true, Nat.beq_eq, Nat.ble_eq, true_and, and_true, ge_iff_le, gt_iff_lt, h0]; first | done | omega)) ?_))
    intro k hk
    have hs : numK l off (k + 1) = numK l off k + l.getD (off + k) 0 * 256 ^ k := by rw [numK]
    have e1 : off + (k : Int).toNat * 1 = off + k := by omega
    have e2 : IntKind.i64.wrap ((8 : Int) * (k : Int)) = ((8 * k : Nat) : Int) := by rw [wrap_i64 _ (by omega) (by omega)]; omega
    have e3 : IntKind.i64.wrap ((k : Int) + 1) = ((k + 1 : Nat) : Int) := by rw [wrap_i64 _ (by omega) (by omega)]; omega
    rw [e1, e2, e3]
    refine bc_mk (fun hlt => ?_) (fun hge => ?_)
    · have hlt := of_decide_eq_true hlt
      have hn := numK_bound hB off k
      have hx := okB_get hB (off + k)
      have e4 : ior IntKind.u64 (numK l off k) (ishl IntKind.u64 (IntKind.u64.wrap (l.getD (off + k) 0)) ((8 * k : Nat) : Int)) = numK l off (k + 1) := by
        rw [hs]
        have hp : (2 : Int) ^ (8 * k) ≤ 2 ^ 56 := by exact_mod_cast Nat.pow_le_pow_right (n := 2) (by decide) (show 8 * k ≤ 56 by omega)
        have hp0 : (0 : Int) < 2 ^ (8 * k) := Int.pow_pos (by decide)
        rw [pow_256] at hn ⊢
        generalize l.getD (off + k) 0 = x at *
        generalize numK l off k = m at *
        have hm : x * 2 ^ (8 * k) ≤ 255 * 2 ^ (8 * k) := Int.mul_le_mul_of_nonneg_right (by omega) (by omega)
        have hm0 : 0 ≤ x * 2 ^ (8 * k) := Int.mul_nonneg hx.1 (by omega)
        have hsh : ishl IntKind.u64 (IntKind.u64.wrap x) ((8 * k : Nat) : Int) = x * 2 ^ (8 * k) := by
          unfold ishl
          rw [Int.toNat_natCast, Nat.min_eq_left (show 8 * k ≤ IntKind.u64.bits from by simp [IntKind.bits]; omega), wrap_u64' x (by omega) (by omega), wrap_u64' _ hm0 (by omega)]
        rw [hsh]
        exact ior_add .u64 m x (8 * k) rfl (by simp [IntKind.bits]; omega) hn.1 hn.2 hx.1 (by show _ < (18446744073709551616 : Int); omega)
      rw [e4]
      (repeat (first | (with_reducible refine ob_true ?_) | refine ob_mk (by first | (with_reducible exact beq_self_eq_true _) | (with_reducible exact nbeq _) | (with_reducible exact nble _) | (with_reducible exact seq_rfl _) | (with_reducible assumption) | (simp only [decide_eq_true_eq, Bool.and_eq_true, beq_iff_eq, Bool.true_and, Bool.and_true, Nat.beq_eq, Nat.ble_eq, true_and, and_true, ge_iff_le, gt_iff_lt]; first | done | omega)) ?_))
      refine ⟨by omega, ?_⟩
      (repeat (first | (with_reducible refine ob_true ?_) | refine ob_mk (by first | (with_reducible exact beq_self_eq_true _) | (with_reducible exact nbeq _) | (with_reducible exact nble _) | (with_reducible exact seq_rfl _) | (with_reducible assumption) | (simp only [decide_eq_true_eq, Bool.and_eq_true, beq_iff_eq, Bool.true_and, Bool.and_true, Nat.beq_eq, Nat.ble_eq, true_and, and_true, ge_iff_le, gt_iff_lt]; first | done | omega)) ?_))
      trivial
    · have hge := of_decide_eq_false hge
      have k8 : k = 8 := by omega
      rw [k8]
      exact (by repeat' (first | exact trivial | exact rfl | apply And.intro | (intro h; exact h)))
  · exact h.elim
theorem psum_ok : SpecOK Try.prog 70 sumS := by
  have hS : SpecsOK Try.prog [(69, mul64S), (58, add64S)] := SpecsOK.cons mul64_ok (SpecsOK.cons add64_ok SpecsOK.nil)
  refine q_of mixed hS Try.func70 rfl rfl fun args blks K h => ?_
  split at h
  · rename_i a b c d
    rw [ob_iff] at h
    obtain ⟨hb, hg⟩ := h
    simp only [Bool.and_eq_true, decide_eq_true_eq] at hb
    refine ⟨_, rfl, hg, rfl, noI, ?_⟩
    rw [psum_vf]
    have hab : 0 ≤ a * b := Int.mul_nonneg (by omega) (by omega)
    have hcd : 0 ≤ c * d := Int.mul_nonneg (by omega) (by omega)
    (repeat (first | (with_reducible refine ob_true ?_) | refine ob_mk (by first | (with_reducible exact beq_self_eq_true _) | (with_reducible exact nbeq _) | (with_reducible exact nble _) | (with_reducible exact seq_rfl _) | (with_reducible assumption) | (simp only [decide_eq_true_eq, Bool.and_eq_true, beq_iff_eq, Bool.true_and, Bool.and_true, Nat.beq_eq, Nat.ble_eq, true_and, and_true, ge_iff_le, gt_iff_lt, ge_iff_le]; first | done | omega)) ?_))
    refine ⟨?_, (by repeat' (first | exact trivial | exact rfl | apply And.intro | (intro h; exact h)))⟩
    simp only [wrap_u64]
    generalize a * b = x at *
    generalize c * d = y at *
    have e1 : ((x / 18446744073709551616 + y / 18446744073709551616) % 18446744073709551616 + (x % 18446744073709551616 + y % 18446744073709551616 + 0) / 18446744073709551616) % 18446744073709551616 = (x + y) / 18446744073709551616 % 18446744073709551616 := by omega
    have e2 : (x % 18446744073709551616 + y % 18446744073709551616 + 0) % 18446744073709551616 = (x + y) % 18446744073709551616 := by omega
    rw [e1, e2]
  · exact h.elim
def kr0 (key : ByteArray) : Int := numK (bytesL (clampF (key.extract 0 16))) 0 8
def kr1 (key : ByteArray) : Int := numK (bytesL (clampF (key.extract 0 16))) 8 8
def ks0 (key : ByteArray) : Int := numK (bytesL (key.extract 16 key.size)) 0 8
def ks1 (key : ByteArray) : Int := numK (bytesL (key.extract 16 key.size)) 8 8
def badK (key : ByteArray) : Bool := !(Nat.beq key.size 32)
def newPS : Spec := .m fun args blks K => match args, blks with
  | [.v (.string key)], [] => bc (badK key)
      (K (.tup [.v (.pointer none), .v (.int .i64 2)]) [] [])
      (K (.tup [.ptr 0 0, .v (.int .i64 0)]) [.ints true .u64 [0, 0, 0, kr0 key, kr1 key, ks0 key, ks1 key]] [])
  | _, _ => False
theorem newP_vf (key : ByteArray) (K : SV → List Blk → List Nat → Prop) : vf Try.prog [(24, clampS), (55, pwordS)] (noI) Try.f39 [.v (.string key)] [] K =
  (bc ((↑key.size : Int) != (32 : Int)) (K (SV.tup [SV.v (Value.pointer none), SV.v (Value.int IntKind.i64 (2 : Int))]) [] []) (ob (true && decide ((16 : Int) ≤ (↑key.size : Int))) (bc (badC (key.extract (0 : Nat) (16 : Nat))) (ob (true && decide ((16 : Int) ≤ (↑key.size : Int))) False ∧ ob (true && decide ((16 : Int) ≤ (↑key.size : Int))) (False ∧ False)) (ob (true && decide ((16 : Int) ≤ (↑key.size : Int))) (ob (decide ((8 : Nat) ≤ (clampF (key.extract (0 : Nat) (16 : Nat))).size) && decide ((clampF (key.extract (0 : Nat) (16 : Nat))).size ≤ (clampF (key.extract (0 : Nat) (16 : Nat))).size) && decide ((8 : Nat) ≤ (bytesL (clampF (key.extract (0 : Nat) (16 : Nat)))).length) && okB (bytesL (clampF (key.extract (0 : Nat) (16 : Nat))))) (ob (true && decide ((8 : Int) ≤ (↑(clampF (key.extract (0 : Nat) (16 : Nat))).size : Int))) (ob (decide ((8 : Nat) ≤ (clampF (key.extract (0 : Nat) (16 : Nat))).size - (8 : Nat)) && decide ((clampF (key.extract (0 : Nat) (16 : Nat))).size - (8 : Nat) ≤ (clampF (key.extract (0 : Nat) (16 : Nat))).size - (8 : Nat)) && decide ((16 : Nat) ≤ (bytesL (clampF (key.extract (0 : Nat) (16 : Nat)))).length) && okB (bytesL (clampF (key.extract (0 : Nat) (16 : Nat))))) (ob (decide ((8 : Nat) ≤ (key.extract (16 : Nat) key.size).size) && decide ((key.extract (16 : Nat) key.size).size ≤ (key.extract (16 : Nat) key.size).size) && decide ((8 : Nat) ≤ (bytesL (key.extract (16 : Nat) key.size)).length) && okB (bytesL (key.extract (16 : Nat) key.size))) (ob (true && decide ((8 : Int) ≤ (↑(key.extract (16 : Nat) key.size).size : Int))) (ob (decide ((8 : Nat) ≤ (key.extract (16 : Nat) key.size).size - (8 : Nat)) && decide ((key.extract (16 : Nat) key.size).size - (8 : Nat) ≤ (key.extract (16 : Nat) key.size).size - (8 : Nat)) && decide ((16 : Nat) ≤ (bytesL (key.extract (16 : Nat) key.size)).length) && okB (bytesL (key.extract (16 : Nat) key.size))) (K (SV.tup [SV.ptr (2 : Nat) (0 : Nat), SV.v (Value.int IntKind.i64 (0 : Int))]) [Blk.ints true IntKind.u8 (bytesL (clampF (key.extract (0 : Nat) (16 : Nat)))), Blk.ints true IntKind.u8 (bytesL (key.extract (16 : Nat) key.size)), Blk.ints true IntKind.u64 [(0 : Int), (0 : Int), (0 : Int), numK (bytesL (clampF (key.extract (0 : Nat) (16 : Nat)))) (0 : Nat) (8 : Nat), numK (bytesL (clampF (key.extract (0 : Nat) (16 : Nat)))) (8 : Nat) (8 : Nat), numK (bytesL (key.extract (16 : Nat) key.size)) (0 : Nat) (8 : Nat), numK (bytesL (key.extract (16 : Nat) key.size)) (8 : Nat) (8 : Nat)]] []))))))) ∧ ob (true && decide ((16 : Int) ≤ (↑key.size : Int))) (ob (decide ((8 : Nat) ≤ (clampF (key.extract (0 : Nat) (16 : Nat))).size) && decide ((clampF (key.extract (0 : Nat) (16 : Nat))).size ≤ (clampF (key.extract (0 : Nat) (16 : Nat))).size) && decide ((8 : Nat) ≤ (bytesL (clampF (key.extract (0 : Nat) (16 : Nat)))).length) && okB (bytesL (clampF (key.extract (0 : Nat) (16 : Nat))))) (ob (true && decide ((8 : Int) ≤ (↑(clampF (key.extract (0 : Nat) (16 : Nat))).size : Int))) (ob (decide ((8 : Nat) ≤ (clampF (key.extract (0 : Nat) (16 : Nat))).size - (8 : Nat)) && decide ((clampF (key.extract (0 : Nat) (16 : Nat))).size - (8 : Nat) ≤ (clampF (key.extract (0 : Nat) (16 : Nat))).size - (8 : Nat)) && decide ((16 : Nat) ≤ (bytesL (clampF (key.extract (0 : Nat) (16 : Nat)))).length) && okB (bytesL (clampF (key.extract (0 : Nat) (16 : Nat))))) (ob (decide ((8 : Nat) ≤ (key.extract (16 : Nat) key.size).size) && decide ((key.extract (16 : Nat) key.size).size ≤ (key.extract (16 : Nat) key.size).size) && decide ((8 : Nat) ≤ (bytesL (key.extract (16 : Nat) key.size)).length) && okB (bytesL (key.extract (16 : Nat) key.size))) (ob (true && decide ((8 : Int) ≤ (↑(key.extract (16 : Nat) key.size).size : Int))) (ob (decide ((8 : Nat) ≤ (key.extract (16 : Nat) key.size).size - (8 : Nat)) && decide ((key.extract (16 : Nat) key.size).size - (8 : Nat) ≤ (key.extract (16 : Nat) key.size).size - (8 : Nat)) && decide ((16 : Nat) ≤ (bytesL (key.extract (16 : Nat) key.size)).length) && okB (bytesL (key.extract (16 : Nat) key.size))) (K (SV.tup [SV.ptr (2 : Nat) (0 : Nat), SV.v (Value.int IntKind.i64 (0 : Int))]) [Blk.ints true IntKind.u8 (bytesL (clampF (key.extract (0 : Nat) (16 : Nat)))), Blk.ints true IntKind.u8 (bytesL (key.extract (16 : Nat) key.size)), Blk.ints true IntKind.u64 [(0 : Int), (0 : Int), (0 : Int), numK (bytesL (clampF (key.extract (0 : Nat) (16 : Nat)))) (0 : Nat) (8 : Nat), numK (bytesL (clampF (key.extract (0 : Nat) (16 : Nat)))) (8 : Nat) (8 : Nat), numK (bytesL (key.extract (16 : Nat) key.size)) (0 : Nat) (8 : Nat), numK (bytesL (key.extract (16 : Nat) key.size)) (8 : Nat) (8 : Nat)]] [])))))) ∧ ob (decide ((8 : Nat) ≤ (clampF (key.extract (0 : Nat) (16 : Nat))).size) && decide ((clampF (key.extract (0 : Nat) (16 : Nat))).size ≤ (clampF (key.extract (0 : Nat) (16 : Nat))).size) && decide ((8 : Nat) ≤ (bytesL (clampF (key.extract (0 : Nat) (16 : Nat)))).length) && okB (bytesL (clampF (key.extract (0 : Nat) (16 : Nat))))) (ob (true && decide ((8 : Int) ≤ (↑(clampF (key.extract (0 : Nat) (16 : Nat))).size : Int))) (ob (decide ((8 : Nat) ≤ (clampF (key.extract (0 : Nat) (16 : Nat))).size - (8 : Nat)) && decide ((clampF (key.extract (0 : Nat) (16 : Nat))).size - (8 : Nat) ≤ (clampF (key.extract (0 : Nat) (16 : Nat))).size - (8 : Nat)) && decide ((16 : Nat) ≤ (bytesL (clampF (key.extract (0 : Nat) (16 : Nat)))).length) && okB (bytesL (clampF (key.extract (0 : Nat) (16 : Nat))))) (ob (decide ((8 : Nat) ≤ (key.extract (16 : Nat) key.size).size) && decide ((key.extract (16 : Nat) key.size).size ≤ (key.extract (16 : Nat) key.size).size) && decide ((8 : Nat) ≤ (bytesL (key.extract (16 : Nat) key.size)).length) && okB (bytesL (key.extract (16 : Nat) key.size))) (ob (true && decide ((8 : Int) ≤ (↑(key.extract (16 : Nat) key.size).size : Int))) (ob (decide ((8 : Nat) ≤ (key.extract (16 : Nat) key.size).size - (8 : Nat)) && decide ((key.extract (16 : Nat) key.size).size - (8 : Nat) ≤ (key.extract (16 : Nat) key.size).size - (8 : Nat)) && decide ((16 : Nat) ≤ (bytesL (key.extract (16 : Nat) key.size)).length) && okB (bytesL (key.extract (16 : Nat) key.size))) (K (SV.tup [SV.ptr (2 : Nat) (0 : Nat), SV.v (Value.int IntKind.i64 (0 : Int))]) [Blk.ints true IntKind.u8 (bytesL (key.extract (16 : Nat) key.size)), Blk.ints true IntKind.u8 (bytesL (clampF (key.extract (0 : Nat) (16 : Nat)))), Blk.ints true IntKind.u64 [(0 : Int), (0 : Int), (0 : Int), numK (bytesL (clampF (key.extract (0 : Nat) (16 : Nat)))) (0 : Nat) (8 : Nat), numK (bytesL (clampF (key.extract (0 : Nat) (16 : Nat)))) (8 : Nat) (8 : Nat), numK (bytesL (key.extract (16 : Nat) key.size)) (0 : Nat) (8 : Nat), numK (bytesL (key.extract (16 : Nat) key.size)) (8 : Nat) (8 : Nat)]] []))))))))))) := by kernel_rfl
theorem clampL_len (l : List Int) : (clampL l).length = l.length := by rw [clampL, List.length_mapIdx]
theorem clampF_size (s : ByteArray) : (clampF s).size = s.size := by rw [clampF, bstr_size, clampL_len, bytesL_len]
theorem okB_bytes (s : ByteArray) : okB (bytesL s) = true := by
  unfold okB
  rw [List.all_eq_true]
  intro x hx
  have := bytesL_range x hx
  simpa using this
theorem badK_false {s : ByteArray} (h : badK s = false) : s.size = 32 := by
  unfold badK at h
  simp only [Bool.not_eq_false'] at h
  exact Nat.eq_of_beq_eq_true h
theorem badK_true {s : ByteArray} (h : badK s = true) : s.size ≠ 32 := by
  intro h1
  unfold badK at h
  rw [h1] at h
  cases h
set_option maxHeartbeats 1600000 in
theorem newP_ok : SpecOK Try.prog 39 newPS := by
  have hS : SpecsOK Try.prog [(24, clampS), (55, pwordS)] := SpecsOK.cons clamp_ok (SpecsOK.cons pword_ok SpecsOK.nil)
  refine m_keep mixed hS Try.func39 rfl rfl fun args blks K h => ?_
  split at h
  · rename_i key
    rw [bc_iff] at h
    by_cases hk : badK key = true
    · refine ⟨noI, [], ?_⟩
      have hb := badK_true hk
      rw [newP_vf]
      refine bc_mk (fun _ => ⟨rfl, _, rfl, h.1 hk⟩) (fun h1 => ?_)
      exfalso; simp at h1; omega
    · rw [Bool.not_eq_true] at hk
      have hK := h.2 hk
      refine ⟨noI, [2], ?_⟩
      have hz := badK_false hk
      rw [newP_vf]
      refine bc_mk (fun h1 => ?_) (fun _ => ?_)
      · exfalso; simp at h1; omega
      have z1 : (key.extract 0 16).size = 16 := by rw [ByteArray.size_extract]; omega
      have z2 : (key.extract 16 key.size).size = 16 := by rw [ByteArray.size_extract]; omega
      have z3 : (clampF (key.extract 0 16)).size = 16 := (clampF_size _).trans z1
      have z4 := (bytesL_len (clampF (key.extract 0 16))).trans z3
      have z5 := (bytesL_len (key.extract 16 key.size)).trans z2
      have b1 := okB_bytes (clampF (key.extract 0 16))
      have b2 := okB_bytes (key.extract 16 key.size)
      have b0 : badC (key.extract 0 16) = false := by unfold badC; rw [z1]; rfl
      rw [kr0, kr1, ks0, ks1] at hK
      rw [b0]
      generalize bytesL (clampF (key.extract 0 16)) = l1 at *
      generalize bytesL (key.extract 16 key.size) = l2 at *
      (repeat (first | (with_reducible refine ob_true ?_) | refine ob_mk (by first | (with_reducible exact beq_self_eq_true _) | (with_reducible exact nbeq _) | (with_reducible exact nble _) | (with_reducible exact seq_rfl _) | (with_reducible assumption) | (simp only [decide_eq_true_eq, Bool.and_eq_true, beq_iff_eq, Bool.true_and, Bool.and_true, Nat.beq_eq, Nat.ble_eq, true_and, and_true, ge_iff_le, gt_iff_lt]; first | done | omega)) ?_))
      try rw [bc_f]
      (repeat' (first | (with_reducible refine ob_true ?_) | (with_reducible apply And.intro) | (with_reducible refine ob_mk ?hob ?_; case hob => exact (by first | (with_reducible exact beq_self_eq_true _) | (with_reducible exact nbeq _) | (with_reducible exact nble _) | (with_reducible exact seq_rfl _) | (with_reducible assumption) | (simp only [decide_eq_true_eq, Bool.and_eq_true, beq_iff_eq, Bool.true_and, Bool.and_true, Nat.beq_eq, Nat.ble_eq, true_and, and_true, ge_iff_le, gt_iff_lt, z2, z3, z4, z5, b1, b2]; first | done | omega))) | (with_reducible exact trivial) | exact ⟨_, rfl, hK⟩ | exact (rfl : (_ : Bool) = true)))
  · exact h.elim
def mulP (a b c r0 r1 : Int) : Int := (a + 18446744073709551616 * b + 340282366920938463463374607431768211456 * c) * (r0 + 18446744073709551616 * r1)
/-- What is beyond 2^130 counts 5 for each. -/
def foldP (x : Int) : Nat → Int
  | 0 => x
  | k + 1 => foldP x k % 1361129467683753853853498429727072845824 + 5 * (foldP x k / 1361129467683753853853498429727072845824)
def timesS : Spec := .m fun args blks K => match args, blks with
  | [.ptr 0 0], [.ints true .u64 [a, b, c, r0, r1, s0, s1]] =>
    ob (decide (0 ≤ a) && decide (a < 18446744073709551616) && decide (0 ≤ b) && decide (b < 18446744073709551616) && decide (0 ≤ c) && decide (c < 8) && decide (0 ≤ r0) && decide (r0 < 1152921504606846976) && decide (0 ≤ r1) && decide (r1 < 1152921504606846976))
      (K (.tup []) [.ints true .u64 [foldP (mulP a b c r0 r1) 2 % 18446744073709551616, foldP (mulP a b c r0 r1) 2 / 18446744073709551616 % 18446744073709551616, foldP (mulP a b c r0 r1) 2 / 340282366920938463463374607431768211456, r0, r1, s0, s1]] [])
  | _, _ => False

end Go.Proofs.Ytinmllbkdjceaaa.Sx
