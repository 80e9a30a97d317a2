/- TopBlocks: the wire's texts, by contract. No condition. -/
import Derived.Test.YtmnenigmkfnciaaGreatDoorSx13
import Derived.Test.YtmnenigmkfnciaaGreatDoorProg
import Derived.Test.YtmnenigmkfnciaaGreatDoorBase
import Derived.Lib.Strings
/- wire: what tells whether a command may be. No condition. -/
namespace Go.Proofs.YtmnenigmkfnciaaGreatDoor.Sx
open Go Go.Proofs
set_option maxRecDepth 100000
set_option linter.unusedSimpArgs false
set_option linter.unusedVariables false

theorem check_vf (k e : Int) (n b : ByteArray) (K : SV → List Blk → List Nat → Prop) : vf Tryz.prog [] (noI) Tryz.f59 [.agg [.v (.int .i64 k), .v (.int .i64 e), .v (.string n), .v (.string b)]] [] K =
  (bc (k == (1 : Int)) (bc (seq n (ByteArray.mk (Array.mk []))) (bc (!bif true then (↑b.size : Int) == (33 : Int) else false) (K (SV.v (Value.int IntKind.i64 (1 : Int))) [Blk.cells true [SV.v (Value.int IntKind.i64 k), SV.v (Value.int IntKind.i64 e), SV.v (Value.string n), SV.v (Value.string b)]] []) (bc (bif false then true else decide (e < (0 : Int))) (K (SV.v (Value.int IntKind.i64 (1 : Int))) [Blk.cells true [SV.v (Value.int IntKind.i64 k), SV.v (Value.int IntKind.i64 e), SV.v (Value.string n), SV.v (Value.string b)]] []) (bc (bif false then true else decide (e > (63 : Int))) (K (SV.v (Value.int IntKind.i64 (1 : Int))) [Blk.cells true [SV.v (Value.int IntKind.i64 k), SV.v (Value.int IntKind.i64 e), SV.v (Value.string n), SV.v (Value.string b)]] []) (K (SV.v (Value.int IntKind.i64 (0 : Int))) [Blk.cells true [SV.v (Value.int IntKind.i64 k), SV.v (Value.int IntKind.i64 e), SV.v (Value.string n), SV.v (Value.string b)]] [])))) (K (SV.v (Value.int IntKind.i64 (1 : Int))) [Blk.cells true [SV.v (Value.int IntKind.i64 k), SV.v (Value.int IntKind.i64 e), SV.v (Value.string n), SV.v (Value.string b)]] [])) (bc (k == (2 : Int)) (bc (decide ((↑n.size : Int) ≥ (1 : Int))) (bc (bif true then decide ((↑n.size : Int) ≤ (16 : Int)) else false) (bc (!bif true then decide ((↑b.size : Int) ≤ (4096 : Int)) else false) (K (SV.v (Value.int IntKind.i64 (1 : Int))) [Blk.cells true [SV.v (Value.int IntKind.i64 k), SV.v (Value.int IntKind.i64 e), SV.v (Value.string n), SV.v (Value.string b)]] []) (bc (bif false then true else decide (e < (0 : Int))) (K (SV.v (Value.int IntKind.i64 (1 : Int))) [Blk.cells true [SV.v (Value.int IntKind.i64 k), SV.v (Value.int IntKind.i64 e), SV.v (Value.string n), SV.v (Value.string b)]] []) (bc (bif false then true else decide (e > (63 : Int))) (K (SV.v (Value.int IntKind.i64 (1 : Int))) [Blk.cells true [SV.v (Value.int IntKind.i64 k), SV.v (Value.int IntKind.i64 e), SV.v (Value.string n), SV.v (Value.string b)]] []) (K (SV.v (Value.int IntKind.i64 (0 : Int))) [Blk.cells true [SV.v (Value.int IntKind.i64 k), SV.v (Value.int IntKind.i64 e), SV.v (Value.string n), SV.v (Value.string b)]] [])))) (K (SV.v (Value.int IntKind.i64 (1 : Int))) [Blk.cells true [SV.v (Value.int IntKind.i64 k), SV.v (Value.int IntKind.i64 e), SV.v (Value.string n), SV.v (Value.string b)]] [])) (K (SV.v (Value.int IntKind.i64 (1 : Int))) [Blk.cells true [SV.v (Value.int IntKind.i64 k), SV.v (Value.int IntKind.i64 e), SV.v (Value.string n), SV.v (Value.string b)]] [])) (bc (k == (3 : Int)) (ob (decide (n.size + b.size ≤ (9223372036854775807 : Nat))) (bc (!seq (n ++ b) (ByteArray.mk (Array.mk []))) (K (SV.v (Value.int IntKind.i64 (1 : Int))) [Blk.cells true [SV.v (Value.int IntKind.i64 k), SV.v (Value.int IntKind.i64 e), SV.v (Value.string n), SV.v (Value.string b)]] []) (bc (bif false then true else decide (e < (0 : Int))) (K (SV.v (Value.int IntKind.i64 (1 : Int))) [Blk.cells true [SV.v (Value.int IntKind.i64 k), SV.v (Value.int IntKind.i64 e), SV.v (Value.string n), SV.v (Value.string b)]] []) (bc (bif false then true else decide (e > (63 : Int))) (K (SV.v (Value.int IntKind.i64 (1 : Int))) [Blk.cells true [SV.v (Value.int IntKind.i64 k), SV.v (Value.int IntKind.i64 e), SV.v (Value.string n), SV.v (Value.string b)]] []) (K (SV.v (Value.int IntKind.i64 (0 : Int))) [Blk.cells true [SV.v (Value.int IntKind.i64 k), SV.v (Value.int IntKind.i64 e), SV.v (Value.string n), SV.v (Value.string b)]] []))))) (K (SV.v (Value.int IntKind.i64 (1 : Int))) [Blk.cells true [SV.v (Value.int IntKind.i64 k), SV.v (Value.int IntKind.i64 e), SV.v (Value.string n), SV.v (Value.string b)]] [])))) := by kernel_rfl
/-- May a command be? -/
def cmdOK (k e : Int) (n b : ByteArray) : Bool :=
  ((k == 1 && (n.size == 0 && b.size == 33)) || (k == 2 && (decide (1 ≤ n.size) && decide (n.size ≤ 16) && decide (b.size ≤ 4096))) || (k == 3 && (n.size == 0 && b.size == 0))) && (decide (0 ≤ e) && decide (e ≤ 63))
def checkS : Spec := .q fun args blks K => match args, blks with
  | [.agg [.v (.int .i64 k), .v (.int .i64 e), .v (.string n), .v (.string b)]], [] => ob (decide (n.size + b.size ≤ 9223372036854775807)) (K (.v (.int .i64 (if cmdOK k e n b then 0 else 1))))
  | _, _ => False
theorem seq_empty (s : ByteArray) : seq s { data := { toList := [] } } = (s.size == 0) := by
  rw [Bool.eq_iff_iff, seq_iff, beq_iff_eq]
  constructor
  · intro h; rw [h]; rfl
  · intro h; cases s with | mk d => simp only [ByteArray.size] at h; rw [show d = #[] from Array.eq_empty_of_size_eq_zero h]
theorem checkS_ok : SpecOK Tryz.prog 59 checkS := by
  refine q_ro mixed SpecsOK.nil Tryz.func59 rfl rfl fun args blks K h => ?_
  split at h
  · rename_i k e n b
    rw [ob_iff] at h
    refine ⟨_, rfl, h.2, rfl, noI, ?_⟩
    have hsz := of_decide_eq_true h.1
    rw [check_vf]
    simp only [seq_empty, ByteArray.size_append]
    repeat' (first | (refine bc_mk (fun _ => ?_) (fun _ => ?_)) | (refine ob_mk ?_ ?_))
    all_goals (simp only [cond_true, cond_false, Bool.not_eq_true', Bool.not_eq_false', beq_iff_eq, beq_eq_false_iff_ne, ne_eq, decide_eq_true_eq, decide_eq_false_iff_not] at *)
    all_goals first | omega | skip
    all_goals (refine congrArg (fun x => SV.v (Value.int .i64 x)) ?_; unfold cmdOK)
    all_goals (split <;> rename_i hc <;> simp only [Bool.and_eq_true, Bool.or_eq_true, beq_iff_eq, decide_eq_true_eq] at hc <;> omega)
  · exact h.elim

end Go.Proofs.YtmnenigmkfnciaaGreatDoor.Sx
/- wire: texts as bytes. No condition. -/
namespace Go.Proofs.YtmnenigmkfnciaaGreatDoor.Sx
open Go Go.Proofs
set_option maxRecDepth 100000
set_option linter.unusedSimpArgs false
set_option linter.unusedVariables false

/-- A number's last byte; its last four. -/
def byteB (n : Int) : ByteArray := bstr [IntKind.u8.wrap n]
def fourB (n : Int) : ByteArray := bstr [IntKind.u8.wrap (ishr IntKind.i64 n 24), IntKind.u8.wrap (ishr IntKind.i64 n 16), IntKind.u8.wrap (ishr IntKind.i64 n 8), IntKind.u8.wrap n]
def textB (s : ByteArray) : ByteArray := fourB s.size ++ s
def textsB : List ByteArray → ByteArray
  | [] => bstr []
  | s :: l => textB s ++ textsB l
def toStrs : List SV → Option (List ByteArray)
  | [] => some []
  | .v (.string s) :: r => match toStrs r with
    | some l => some (s :: l)
    | none => none
  | _ :: _ => none
theorem byte1_vf (n : Int) (K : SV → List Blk → List Nat → Prop) : vf Tryz.prog [] (noI) Tryz.f66 [.v (.int .i64 n)] [] K =
  (ob true (K (SV.v (Value.string (bstr [IntKind.u8.wrap n]))) [Blk.ints true IntKind.u8 [IntKind.u8.wrap n]] [])) := by kernel_rfl
theorem bfour_vf (n : Int) (K : SV → List Blk → List Nat → Prop) : vf Tryz.prog [] (noI) Tryz.f33 [.v (.int .i64 n)] [] K =
  (ob true (ob true (ob true (ob true (K (SV.v (Value.string (bstr [IntKind.u8.wrap (ishr IntKind.i64 n (24 : Int)), IntKind.u8.wrap (ishr IntKind.i64 n (16 : Int)), IntKind.u8.wrap (ishr IntKind.i64 n (8 : Int)), IntKind.u8.wrap n]))) [Blk.ints true IntKind.u8 [IntKind.u8.wrap (ishr IntKind.i64 n (24 : Int)), IntKind.u8.wrap (ishr IntKind.i64 n (16 : Int)), IntKind.u8.wrap (ishr IntKind.i64 n (8 : Int)), IntKind.u8.wrap n]] []))))) := by kernel_rfl
theorem wtext_vf (s : ByteArray) (K : SV → List Blk → List Nat → Prop) : vf Tryz.prog [] (noI) Tryz.f67 [.v (.string s)] [] K =
  (ob true (ob true (ob true (ob true (ob (decide ((bstr [IntKind.u8.wrap (ishr IntKind.i64 (↑s.size : Int) (24 : Int)), IntKind.u8.wrap (ishr IntKind.i64 (↑s.size : Int) (16 : Int)), IntKind.u8.wrap (ishr IntKind.i64 (↑s.size : Int) (8 : Int)), IntKind.u8.wrap (↑s.size : Int)]).size + s.size ≤ (9223372036854775807 : Nat))) (K (SV.v (Value.string (bstr [IntKind.u8.wrap (ishr IntKind.i64 (↑s.size : Int) (24 : Int)), IntKind.u8.wrap (ishr IntKind.i64 (↑s.size : Int) (16 : Int)), IntKind.u8.wrap (ishr IntKind.i64 (↑s.size : Int) (8 : Int)), IntKind.u8.wrap (↑s.size : Int)] ++ s))) [Blk.ints true IntKind.u8 [IntKind.u8.wrap (ishr IntKind.i64 (↑s.size : Int) (24 : Int)), IntKind.u8.wrap (ishr IntKind.i64 (↑s.size : Int) (16 : Int)), IntKind.u8.wrap (ishr IntKind.i64 (↑s.size : Int) (8 : Int)), IntKind.u8.wrap (↑s.size : Int)]] [])))))) := by kernel_rfl
def byte1S : Spec := .q fun args blks K => match args, blks with
  | [.v (.int .i64 n)], [] => K (.v (.string (byteB n)))
  | _, _ => False
def fourS : Spec := .q fun args blks K => match args, blks with
  | [.v (.int .i64 n)], [] => K (.v (.string (fourB n)))
  | _, _ => False
def textS1 : Spec := .q fun args blks K => match args, blks with
  | [.v (.string s)], [] => ob (decide (s.size ≤ 9000000000000000000)) (K (.v (.string (textB s))))
  | _, _ => False
theorem byteB_def (n : Int) : byteB n = bstr [IntKind.u8.wrap n] := by rw [byteB]
theorem fourB_def (n : Int) : fourB n = bstr [IntKind.u8.wrap (ishr IntKind.i64 n 24), IntKind.u8.wrap (ishr IntKind.i64 n 16), IntKind.u8.wrap (ishr IntKind.i64 n 8), IntKind.u8.wrap n] := by rw [fourB]
theorem fourB_size (n : Int) : (fourB n).size = 4 := by rw [fourB_def, bstr_size]; rfl
theorem byteB_size (n : Int) : (byteB n).size = 1 := by rw [byteB_def, bstr_size]; rfl
theorem textB_size (s : ByteArray) : (textB s).size = s.size + 4 := by rw [textB, ByteArray.size_append, fourB_size]; omega
theorem byte1S_ok : SpecOK Tryz.prog 66 byte1S := by
  refine q_ro mixed SpecsOK.nil Tryz.func66 rfl rfl fun args blks K h => ?_
  split at h
  · rename_i n
    refine ⟨_, rfl, h, rfl, noI, ?_⟩
    rw [byte1_vf, byteB_def]
    exact rfl
  · exact h.elim
theorem bfourS_ok : SpecOK Tryz.prog 33 fourS := by
  refine q_ro mixed SpecsOK.nil Tryz.func33 rfl rfl fun args blks K h => ?_
  split at h
  · rename_i n
    refine ⟨_, rfl, h, rfl, noI, ?_⟩
    rw [bfour_vf, fourB_def]
    exact rfl
  · exact h.elim
theorem textS1_ok : SpecOK Tryz.prog 67 textS1 := by
  refine q_ro mixed SpecsOK.nil Tryz.func67 rfl rfl fun args blks K h => ?_
  split at h
  · rename_i s
    rw [ob_iff] at h
    have hs := of_decide_eq_true h.1
    refine ⟨_, rfl, h.2, rfl, noI, ?_⟩
    rw [wtext_vf, textB, fourB_def]
    simp only [ob_t]
    refine ob_mk ?_ trivial
    rw [bstr_size]; simp; omega
  · exact h.elim
theorem bytesL_append (a b : ByteArray) : bytesL (a ++ b) = bytesL a ++ bytesL b := by
  unfold bytesL
  rw [← List.map_append]
  simp
theorem textsB_nil : textsB [] = bstr [] := by rw [textsB]
theorem textsB_cons (s : ByteArray) (l : List ByteArray) : textsB (s :: l) = textB s ++ textsB l := by rw [textsB]
theorem bytesL_nil : bytesL (bstr []) = [] := rfl
def textsL : List ByteArray → List Int
  | [] => []
  | s :: l => bytesL (textB s) ++ textsL l
theorem textsL_eq : ∀ l, bytesL (textsB l) = textsL l
  | [] => by rw [textsB_nil]; rfl
  | s :: l => by rw [textsB_cons, bytesL_append, textsL_eq l, textsL]
theorem textsL_range {l : List ByteArray} : ∀ x ∈ textsL l, 0 ≤ x ∧ x < 256 := by rw [← textsL_eq]; exact bytesL_range
theorem textsB_bstr (l : List ByteArray) : textsB l = bstr (textsL l) := by rw [← textsL_eq, bstr_bytesL]
/-- How many bytes texts have. -/
def lenT : List ByteArray → Nat
  | [] => 0
  | s :: l => s.size + 4 + lenT l
theorem textsL_len : ∀ l, (textsL l).length = lenT l
  | [] => rfl
  | s :: l => by rw [textsL, List.length_append, textsL_len l, bytesL_len, textB_size, lenT]
theorem textsB_size (l : List ByteArray) : (textsB l).size = lenT l := by rw [← bytesL_len, textsL_eq, textsL_len]
theorem texts3_vf (a b c : ByteArray) (p : Nat) (K : SV → List Blk → List Nat → Prop) : vf Tryz.prog [(67, textS1)] (noI) Tryz.f34 [.slc 0 0 3 p 1] [.cells false [.v (.string a), .v (.string b), .v (.string c)]] K =
  (ob true (ob (decide (a.size ≤ (9000000000000000000 : Nat))) (ob true (ob (decide ((textB a).size * (1 : Nat) ≤ (140737488355328 : Nat))) (ob true (ob (decide (b.size ≤ (9000000000000000000 : Nat))) (ob (([] ++ bytesL (textB a)).length.beq ((textB a).size * (1 : Nat))) (ob (decide (((textB a).size + (textB b).size) * (1 : Nat) ≤ (140737488355328 : Nat))) (ob true (ob (decide (c.size ≤ (9000000000000000000 : Nat))) (ob (([] ++ bytesL (textB a) ++ bytesL (textB b)).length.beq (((textB a).size + (textB b).size) * (1 : Nat))) (ob (decide (((textB a).size + (textB b).size + (textB c).size) * (1 : Nat) ≤ (140737488355328 : Nat))) (ob (decide ((0 : Nat) + ((textB a).size + (textB b).size + (textB c).size) ≤ ([] ++ bytesL (textB a) ++ bytesL (textB b) ++ bytesL (textB c)).length)) (K (SV.v (Value.string (bstr (List.take ((textB a).size + (textB b).size + (textB c).size) (List.drop (0 : Nat) ([] ++ bytesL (textB a) ++ bytesL (textB b) ++ bytesL (textB c))))))) [Blk.cells false [SV.v (Value.string a), SV.v (Value.string b), SV.v (Value.string c)], Blk.ints true IntKind.u8 ([] ++ bytesL (textB a) ++ bytesL (textB b) ++ bytesL (textB c))] [])))))))))))))) := by kernel_rfl
theorem texts4_vf (a b c d : ByteArray) (p : Nat) (K : SV → List Blk → List Nat → Prop) : vf Tryz.prog [(67, textS1)] (noI) Tryz.f34 [.slc 0 0 4 p 1] [.cells false [.v (.string a), .v (.string b), .v (.string c), .v (.string d)]] K =
  (ob true (ob (decide (a.size ≤ (9000000000000000000 : Nat))) (ob true (ob (decide ((textB a).size * (1 : Nat) ≤ (140737488355328 : Nat))) (ob true (ob (decide (b.size ≤ (9000000000000000000 : Nat))) (ob (([] ++ bytesL (textB a)).length.beq ((textB a).size * (1 : Nat))) (ob (decide (((textB a).size + (textB b).size) * (1 : Nat) ≤ (140737488355328 : Nat))) (ob true (ob (decide (c.size ≤ (9000000000000000000 : Nat))) (ob (([] ++ bytesL (textB a) ++ bytesL (textB b)).length.beq (((textB a).size + (textB b).size) * (1 : Nat))) (ob (decide (((textB a).size + (textB b).size + (textB c).size) * (1 : Nat) ≤ (140737488355328 : Nat))) (ob true (ob (decide (d.size ≤ (9000000000000000000 : Nat))) (ob (([] ++ bytesL (textB a) ++ bytesL (textB b) ++ bytesL (textB c)).length.beq (((textB a).size + (textB b).size + (textB c).size) * (1 : Nat))) (ob (decide (((textB a).size + (textB b).size + (textB c).size + (textB d).size) * (1 : Nat) ≤ (140737488355328 : Nat))) (ob (decide ((0 : Nat) + ((textB a).size + (textB b).size + (textB c).size + (textB d).size) ≤ ([] ++ bytesL (textB a) ++ bytesL (textB b) ++ bytesL (textB c) ++ bytesL (textB d)).length)) (K (SV.v (Value.string (bstr (List.take ((textB a).size + (textB b).size + (textB c).size + (textB d).size) (List.drop (0 : Nat) ([] ++ bytesL (textB a) ++ bytesL (textB b) ++ bytesL (textB c) ++ bytesL (textB d))))))) [Blk.cells false [SV.v (Value.string a), SV.v (Value.string b), SV.v (Value.string c), SV.v (Value.string d)], Blk.ints true IntKind.u8 ([] ++ bytesL (textB a) ++ bytesL (textB b) ++ bytesL (textB c) ++ bytesL (textB d))] [])))))))))))))))))) := by kernel_rfl
theorem texts5_vf (a b c d e : ByteArray) (p : Nat) (K : SV → List Blk → List Nat → Prop) : vf Tryz.prog [(67, textS1)] (noI) Tryz.f34 [.slc 0 0 5 p 1] [.cells false [.v (.string a), .v (.string b), .v (.string c), .v (.string d), .v (.string e)]] K =
  (ob true (ob (decide (a.size ≤ (9000000000000000000 : Nat))) (ob true (ob (decide ((textB a).size * (1 : Nat) ≤ (140737488355328 : Nat))) (ob true (ob (decide (b.size ≤ (9000000000000000000 : Nat))) (ob (([] ++ bytesL (textB a)).length.beq ((textB a).size * (1 : Nat))) (ob (decide (((textB a).size + (textB b).size) * (1 : Nat) ≤ (140737488355328 : Nat))) (ob true (ob (decide (c.size ≤ (9000000000000000000 : Nat))) (ob (([] ++ bytesL (textB a) ++ bytesL (textB b)).length.beq (((textB a).size + (textB b).size) * (1 : Nat))) (ob (decide (((textB a).size + (textB b).size + (textB c).size) * (1 : Nat) ≤ (140737488355328 : Nat))) (ob true (ob (decide (d.size ≤ (9000000000000000000 : Nat))) (ob (([] ++ bytesL (textB a) ++ bytesL (textB b) ++ bytesL (textB c)).length.beq (((textB a).size + (textB b).size + (textB c).size) * (1 : Nat))) (ob (decide (((textB a).size + (textB b).size + (textB c).size + (textB d).size) * (1 : Nat) ≤ (140737488355328 : Nat))) (ob true (ob (decide (e.size ≤ (9000000000000000000 : Nat))) (ob (([] ++ bytesL (textB a) ++ bytesL (textB b) ++ bytesL (textB c) ++ bytesL (textB d)).length.beq (((textB a).size + (textB b).size + (textB c).size + (textB d).size) * (1 : Nat))) (ob (decide (((textB a).size + (textB b).size + (textB c).size + (textB d).size + (textB e).size) * (1 : Nat) ≤ (140737488355328 : Nat))) (ob (decide ((0 : Nat) + ((textB a).size + (textB b).size + (textB c).size + (textB d).size + (textB e).size) ≤ ([] ++ bytesL (textB a) ++ bytesL (textB b) ++ bytesL (textB c) ++ bytesL (textB d) ++ bytesL (textB e)).length)) (K (SV.v (Value.string (bstr (List.take ((textB a).size + (textB b).size + (textB c).size + (textB d).size + (textB e).size) (List.drop (0 : Nat) ([] ++ bytesL (textB a) ++ bytesL (textB b) ++ bytesL (textB c) ++ bytesL (textB d) ++ bytesL (textB e))))))) [Blk.cells false [SV.v (Value.string a), SV.v (Value.string b), SV.v (Value.string c), SV.v (Value.string d), SV.v (Value.string e)], Blk.ints true IntKind.u8 ([] ++ bytesL (textB a) ++ bytesL (textB b) ++ bytesL (textB c) ++ bytesL (textB d) ++ bytesL (textB e))] [])))))))))))))))))))))) := by kernel_rfl
def textsS : Spec := .q fun args blks K => match args, blks with
  | [.slc 0 0 3 p 1], [.cells false [.v (.string a), .v (.string b), .v (.string c)]] => ob (decide (lenT [a, b, c] ≤ 100000000000000)) (K (.v (.string (textsB [a, b, c]))))
  | [.slc 0 0 4 p 1], [.cells false [.v (.string a), .v (.string b), .v (.string c), .v (.string d)]] => ob (decide (lenT [a, b, c, d] ≤ 100000000000000)) (K (.v (.string (textsB [a, b, c, d]))))
  | [.slc 0 0 5 p 1], [.cells false [.v (.string a), .v (.string b), .v (.string c), .v (.string d), .v (.string e)]] => ob (decide (lenT [a, b, c, d, e] ≤ 100000000000000)) (K (.v (.string (textsB [a, b, c, d, e]))))
  | _, _ => False
theorem bstr_takeAll {n : Nat} {l : List Int} (h : l.length ≤ n) : bstr (List.take n (List.drop 0 l)) = bstr l := by rw [List.drop_zero, List.take_of_length_le h]
theorem textsS_ok : SpecOK Tryz.prog 34 textsS := by
  refine q_ro mixed (.cons textS1_ok .nil) Tryz.func34 rfl rfl fun args blks K h => ?_
  split at h
  · rename_i p a b c
    rw [ob_iff] at h
    have hs := of_decide_eq_true h.1
    simp only [lenT] at hs
    refine ⟨_, rfl, h.2, rfl, noI, ?_⟩
    rw [texts3_vf]
    simp only [textB_size, bytesL_len, List.length_append, List.nil_append, Nat.mul_one, Nat.zero_add, List.length_nil]
    repeat (refine ob_mk (by first | (simp; done) | (simp; omega)) ?_)
    rw [bstr_takeAll (by simp [bytesL_len, textB_size]; omega), textsB_bstr]
    simp [textsL]
  · rename_i p a b c d
    rw [ob_iff] at h
    have hs := of_decide_eq_true h.1
    simp only [lenT] at hs
    refine ⟨_, rfl, h.2, rfl, noI, ?_⟩
    rw [texts4_vf]
    simp only [textB_size, bytesL_len, List.length_append, List.nil_append, Nat.mul_one, Nat.zero_add, List.length_nil]
    repeat (refine ob_mk (by first | (simp; done) | (simp; omega)) ?_)
    rw [bstr_takeAll (by simp [bytesL_len, textB_size]; omega), textsB_bstr]
    simp [textsL]
  · rename_i p a b c d e
    rw [ob_iff] at h
    have hs := of_decide_eq_true h.1
    simp only [lenT] at hs
    refine ⟨_, rfl, h.2, rfl, noI, ?_⟩
    rw [texts5_vf]
    simp only [textB_size, bytesL_len, List.length_append, List.nil_append, Nat.mul_one, Nat.zero_add, List.length_nil]
    repeat (refine ob_mk (by first | (simp; done) | (simp; omega)) ?_)
    rw [bstr_takeAll (by simp [bytesL_len, textB_size]; omega), textsB_bstr]
    simp [textsL]
  · exact h.elim

end Go.Proofs.YtmnenigmkfnciaaGreatDoor.Sx
/- A command's bytes; may a request be. No condition. -/
namespace Go.Proofs.YtmnenigmkfnciaaGreatDoor.Sx
open Go Go.Proofs
set_option maxRecDepth 100000
set_option linter.unusedSimpArgs false
set_option linter.unusedVariables false

theorem command_vf (k e : Int) (n b : ByteArray) (K : SV → List Blk → List Nat → Prop) : vf Tryz.prog [(59, checkS), (66, byte1S), (34, textsS)] (noI) Tryz.f32 [.agg [.v (.int .i64 k), .v (.int .i64 e), .v (.string n), .v (.string b)]] [] K =
  (ob (decide (n.size + b.size ≤ (9223372036854775807 : Nat))) (bc ((if cmdOK k e n b = true then (0 : Int) else (1 : Int)) != (0 : Int)) (K (SV.tup [SV.v (Value.string (ByteArray.mk (Array.mk []))), SV.v (Value.int IntKind.i64 (if cmdOK k e n b = true then (0 : Int) else (1 : Int)))]) [Blk.cells true [SV.v (Value.int IntKind.i64 k), SV.v (Value.int IntKind.i64 e), SV.v (Value.string n), SV.v (Value.string b)]] []) (ob (decide (lenT [byteB k, byteB e, n, b] ≤ (100000000000000 : Nat))) (K (SV.tup [SV.v (Value.string (textsB [byteB k, byteB e, n, b])), SV.v (Value.int IntKind.i64 (0 : Int))]) [Blk.cells true [SV.v (Value.int IntKind.i64 k), SV.v (Value.int IntKind.i64 e), SV.v (Value.string n), SV.v (Value.string b)], Blk.cells true [SV.v (Value.string (byteB k)), SV.v (Value.string (byteB e)), SV.v (Value.string n), SV.v (Value.string b)]] [])))) := by kernel_rfl
theorem pcheck_vf (c s k e : Int) (n b : ByteArray) (K : SV → List Blk → List Nat → Prop) : vf Tryz.prog [(59, checkS)] (noI) Tryz.f27 [.agg [.v (.int .i64 c), .v (.int .i64 s), .v (.int .i64 k), .v (.int .i64 e), .v (.string n), .v (.string b)]] [] K =
  (bc (decide (c < (0 : Int))) (K (SV.v (Value.int IntKind.i64 (1 : Int))) [Blk.cells true [SV.v (Value.int IntKind.i64 c), SV.v (Value.int IntKind.i64 s), SV.v (Value.int IntKind.i64 k), SV.v (Value.int IntKind.i64 e), SV.v (Value.string n), SV.v (Value.string b)]] []) (bc (bif false then true else decide (c > (15 : Int))) (K (SV.v (Value.int IntKind.i64 (1 : Int))) [Blk.cells true [SV.v (Value.int IntKind.i64 c), SV.v (Value.int IntKind.i64 s), SV.v (Value.int IntKind.i64 k), SV.v (Value.int IntKind.i64 e), SV.v (Value.string n), SV.v (Value.string b)]] []) (bc (bif false then true else decide (s < (0 : Int))) (K (SV.v (Value.int IntKind.i64 (1 : Int))) [Blk.cells true [SV.v (Value.int IntKind.i64 c), SV.v (Value.int IntKind.i64 s), SV.v (Value.int IntKind.i64 k), SV.v (Value.int IntKind.i64 e), SV.v (Value.string n), SV.v (Value.string b)]] []) (bc (bif false then true else decide (s ≥ (2147483648 : Int))) (K (SV.v (Value.int IntKind.i64 (1 : Int))) [Blk.cells true [SV.v (Value.int IntKind.i64 c), SV.v (Value.int IntKind.i64 s), SV.v (Value.int IntKind.i64 k), SV.v (Value.int IntKind.i64 e), SV.v (Value.string n), SV.v (Value.string b)]] []) (ob (decide (n.size + b.size ≤ (9223372036854775807 : Nat))) (K (SV.v (Value.int IntKind.i64 (if cmdOK k e n b = true then (0 : Int) else (1 : Int)))) [Blk.cells true [SV.v (Value.int IntKind.i64 c), SV.v (Value.int IntKind.i64 s), SV.v (Value.int IntKind.i64 k), SV.v (Value.int IntKind.i64 e), SV.v (Value.string n), SV.v (Value.string b)]] [])))))) := by kernel_rfl
def cmdB (k e : Int) (n b : ByteArray) : ByteArray := if cmdOK k e n b then textsB [byteB k, byteB e, n, b] else bstr []
def reqOK (c s k e : Int) (n b : ByteArray) : Bool := (decide (0 ≤ c) && decide (c ≤ 15)) && ((decide (0 ≤ s) && decide (s < 2147483648)) && cmdOK k e n b)
theorem cmdB_def (k e : Int) (n b : ByteArray) : cmdB k e n b = if cmdOK k e n b then textsB [byteB k, byteB e, n, b] else bstr [] := by rw [cmdB]
theorem reqOK_def (c s k e : Int) (n b : ByteArray) : reqOK c s k e n b = ((decide (0 ≤ c) && decide (c ≤ 15)) && ((decide (0 ≤ s) && decide (s < 2147483648)) && cmdOK k e n b)) := by rw [reqOK]
theorem cmdOK_size {k e : Int} {n b : ByteArray} (h : cmdOK k e n b = true) : n.size ≤ 16 ∧ b.size ≤ 4096 ∧ 0 ≤ e ∧ e ≤ 63 ∧ 1 ≤ k ∧ k ≤ 3 := by
  simp only [cmdOK, Bool.and_eq_true, Bool.or_eq_true, beq_iff_eq, decide_eq_true_eq] at h
  omega
theorem seq_nil (s : ByteArray) : seq s (bstr []) = (s.size == 0) := seq_empty s
def commandS : Spec := .q fun args blks K => match args, blks with
  | [.agg [.v (.int .i64 k), .v (.int .i64 e), .v (.string n), .v (.string b)]], [] => ob (decide (n.size + b.size ≤ 9223372036854775807)) (K (.tup [.v (.string (cmdB k e n b)), .v (.int .i64 (if cmdOK k e n b then 0 else 1))]))
  | _, _ => False
theorem commandS_ok : SpecOK Tryz.prog 32 commandS := by
  refine q_ro mixed (.cons checkS_ok (.cons byte1S_ok (.cons textsS_ok .nil))) Tryz.func32 rfl rfl fun args blks K h => ?_
  split at h
  · rename_i k e n b
    rw [ob_iff] at h
    refine ⟨_, rfl, h.2, rfl, noI, ?_⟩
    rw [command_vf, cmdB_def]
    refine ob_mk h.1 ?_
    cases hc : cmdOK k e n b with
    | true =>
      have := cmdOK_size hc
      refine ob_mk (decide_eq_true ?_) rfl
      simp only [lenT, byteB_size]; omega
    | false => exact rfl
  · exact h.elim
def pcheckS : Spec := .q fun args blks K => match args, blks with
  | [.agg [.v (.int .i64 c), .v (.int .i64 s), .v (.int .i64 k), .v (.int .i64 e), .v (.string n), .v (.string b)]], [] => ob (decide (n.size + b.size ≤ 9223372036854775807)) (K (.v (.int .i64 (if reqOK c s k e n b then 0 else 1))))
  | _, _ => False
theorem pcheckS_ok : SpecOK Tryz.prog 27 pcheckS := by
  refine q_ro mixed (.cons checkS_ok .nil) Tryz.func27 rfl rfl fun args blks K h => ?_
  split at h
  · rename_i c s k e n b
    rw [ob_iff] at h
    refine ⟨_, rfl, h.2, rfl, noI, ?_⟩
    rw [pcheck_vf, reqOK_def]
    simp only [cond_true, cond_false]
    refine bc_mk (fun h1 => ?_) (fun h1 => bc_mk (fun h2 => ?_) (fun h2 => bc_mk (fun h3 => ?_) (fun h3 => bc_mk (fun h4 => ?_) (fun h4 => ob_mk h.1 ?_))))
    all_goals (simp only [decide_eq_true_eq, decide_eq_false_iff_not] at h1)
    · have : decide (0 ≤ c) = false := decide_eq_false (by omega)
      simp [this]
    · simp only [decide_eq_true_eq] at h2
      have : decide (c ≤ 15) = false := decide_eq_false (by omega)
      simp [this]
    · simp only [decide_eq_true_eq] at h3
      have : decide (0 ≤ s) = false := decide_eq_false (by omega)
      simp [this]
    · simp only [decide_eq_true_eq] at h4
      have : decide (s < 2147483648) = false := decide_eq_false (by omega)
      simp [this]
    · simp only [decide_eq_false_iff_not] at h2 h3 h4
      rw [decide_eq_true (show 0 ≤ c by omega), decide_eq_true (show c ≤ 15 by omega), decide_eq_true (show 0 ≤ s by omega), decide_eq_true (show s < 2147483648 by omega)]
      simp only [Bool.true_and]
  · exact h.elim

end Go.Proofs.YtmnenigmkfnciaaGreatDoor.Sx
/- Four bytes and the number that they are; texts in front of bytes. No condition. -/
namespace Go.Proofs.YtmnenigmkfnciaaGreatDoor.Sx
open Go Go.Proofs
set_option maxRecDepth 100000
set_option linter.unusedSimpArgs false
set_option linter.unusedVariables false

theorem toNat_ofInt64 (x : Nat) (h : x < 18446744073709551616) : (BitVec.ofInt 64 (x : Int)).toNat = x := by
  simp [BitVec.toNat_ofInt]; omega
/-- Two numbers that have no bit in common. -/
theorem ior_i64 (x y n : Nat) (hy : y < 2 ^ n) (h : x * 2 ^ n + y < 9223372036854775808) : ior IntKind.i64 ((x : Int) * 2 ^ n) (y : Int) = (x : Int) * 2 ^ n + y := by
  have hx : x * 2 ^ n < 9223372036854775808 := by omega
  have hy' : y < 9223372036854775808 := by omega
  have e : ((x : Int) * 2 ^ n) = ((x * 2 ^ n : Nat) : Int) := by push_cast; rfl
  unfold ior
  rw [e]
  have hb : IntKind.i64.bits = 64 := rfl
  rw [hb, BitVec.toNat_or, toNat_ofInt64 _ (by omega), toNat_ofInt64 _ (by omega)]
  have : x * 2 ^ n ||| y = x * 2 ^ n + y := by
    rw [Nat.mul_comm, ← Nat.two_pow_add_eq_or_of_lt hy]
  rw [this, wrap_i64 _ (by omega) (by omega)]
  push_cast; rfl
theorem ishl_i64 (x n : Nat) (hn : n ≤ 62) (h : x * 2 ^ n < 9223372036854775808) : ishl IntKind.i64 (x : Int) (n : Int) = (x : Int) * 2 ^ n := by
  unfold ishl
  have hb : IntKind.i64.bits = 64 := rfl
  rw [hb, Int.toNat_natCast, Nat.min_eq_left (by omega)]
  have e : ((x : Int) * 2 ^ n) = ((x * 2 ^ n : Nat) : Int) := by push_cast; rfl
  rw [e, wrap_i64 _ (by omega) (by omega)]
/-- The number of four bytes. -/
def four4 (a b c d : Int) : Int := ior IntKind.i64 (ior IntKind.i64 (ior IntKind.i64 (ishl IntKind.i64 (IntKind.i64.wrap a) 24) (ishl IntKind.i64 (IntKind.i64.wrap b) 16)) (ishl IntKind.i64 (IntKind.i64.wrap c) 8)) (IntKind.i64.wrap d)
theorem four4_eq (a b c d : Nat) (ha : a < 256) (hb : b < 256) (hc : c < 256) (hd : d < 256) : four4 a b c d = ((a * 16777216 + b * 65536 + c * 256 + d : Nat) : Int) := by
  unfold four4
  rw [wrap_i64 _ (by omega) (by omega), wrap_i64 _ (by omega) (by omega), wrap_i64 _ (by omega) (by omega), wrap_i64 _ (by omega) (by omega)]
  have e1 : ishl IntKind.i64 (a : Int) 24 = (a : Int) * 2 ^ 24 := ishl_i64 a 24 (by omega) (by omega)
  have e2 : ishl IntKind.i64 (b : Int) 16 = (b : Int) * 2 ^ 16 := ishl_i64 b 16 (by omega) (by omega)
  have e3 : ishl IntKind.i64 (c : Int) 8 = (c : Int) * 2 ^ 8 := ishl_i64 c 8 (by omega) (by omega)
  rw [e1, e2, e3]
  have p24 : (2 : Int) ^ 24 = 16777216 := by decide
  have p16 : (2 : Int) ^ 16 = 65536 := by decide
  have p8 : (2 : Int) ^ 8 = 256 := by decide
  have i1 : ior IntKind.i64 ((a : Int) * 2 ^ 24) ((b : Int) * 2 ^ 16) = ((a * 256 + b : Nat) : Int) * 2 ^ 16 := by
    have h := ior_i64 a (b * 65536) 24 (by omega) (by omega)
    have eb : ((b * 65536 : Nat) : Int) = (b : Int) * 2 ^ 16 := by rw [p16]; omega
    rw [eb] at h
    rw [h, p16, p24]; omega
  rw [i1]
  have i2 : ior IntKind.i64 (((a * 256 + b : Nat) : Int) * 2 ^ 16) ((c : Int) * 2 ^ 8) = (((a * 256 + b) * 256 + c : Nat) : Int) * 2 ^ 8 := by
    have h := ior_i64 (a * 256 + b) (c * 256) 16 (by omega) (by omega)
    have eb : ((c * 256 : Nat) : Int) = (c : Int) * 2 ^ 8 := by rw [p8]; omega
    rw [eb] at h
    rw [h, p16, p8]; omega
  rw [i2, ior_i64 ((a * 256 + b) * 256 + c) d 8 (by omega) (by omega), p8]
  omega
theorem ishr_i64 (x n : Nat) (hn : n ≤ 62) : ishr IntKind.i64 (x : Int) (n : Int) = ((x / 2 ^ n : Nat) : Int) := by
  unfold ishr
  have hb : IntKind.i64.bits = 64 := rfl
  rw [hb, Int.toNat_natCast, Nat.min_eq_left (by omega)]
  have e : ((2 : Int) ^ n) = ((2 ^ n : Nat) : Int) := by push_cast; rfl
  rw [e, Int.fdiv_eq_ediv_of_nonneg _ (Int.natCast_nonneg _)]
  rfl
/-- The bytes of a number. -/
theorem fourB_bytes (n : Nat) : bytesL (fourB n) = [((n / 16777216 % 256 : Nat) : Int), ((n / 65536 % 256 : Nat) : Int), ((n / 256 % 256 : Nat) : Int), ((n % 256 : Nat) : Int)] := by
  have e1 : ishr IntKind.i64 (n : Int) 24 = ((n / 2 ^ 24 : Nat) : Int) := ishr_i64 n 24 (by omega)
  have e2 : ishr IntKind.i64 (n : Int) 16 = ((n / 2 ^ 16 : Nat) : Int) := ishr_i64 n 16 (by omega)
  have e3 : ishr IntKind.i64 (n : Int) 8 = ((n / 2 ^ 8 : Nat) : Int) := ishr_i64 n 8 (by omega)
  rw [fourB_def, e1, e2, e3]
  rw [show (2 : Nat) ^ 24 = 16777216 by decide, show (2 : Nat) ^ 16 = 65536 by decide, show (2 : Nat) ^ 8 = 256 by decide, wrap_u8, wrap_u8, wrap_u8, wrap_u8]
  rw [bytesL_bstr]
  · rfl
  · intro x hx
    simp only [List.mem_cons, List.not_mem_nil, or_false] at hx
    omega

end Go.Proofs.YtmnenigmkfnciaaGreatDoor.Sx
/- wire.Read of texts' bytes. No condition. -/
namespace Go.Proofs.YtmnenigmkfnciaaGreatDoor.Sx
open Go Go.Proofs
set_option maxRecDepth 100000
set_option linter.unusedSimpArgs false
set_option linter.unusedVariables false

theorem next_vf (s : ByteArray) (K : SV → List Blk → List Nat → Prop) : vf Tryz.prog [] (noI) Tryz.f98 [.v (.string s)] [] K =
  (bc (decide ((↑s.size : Int) < (4 : Int))) (K (SV.tup [SV.v (Value.string (ByteArray.mk (Array.mk []))), SV.v (Value.string (ByteArray.mk (Array.mk []))), SV.v (Value.bool false)]) [] []) (ob (true && decide ((0 : Int) < (↑s.size : Int))) (ob true (ob (true && decide ((1 : Int) < (↑s.size : Int))) (ob true (ob (true && decide ((2 : Int) < (↑s.size : Int))) (ob true (ob (true && decide ((3 : Int) < (↑s.size : Int))) (ob (true && decide ((4 : Int) ≤ (↑s.size : Int))) (bc (decide ((↑(s.extract (4 : Nat) s.size).size : Int) < ior IntKind.i64 (ior IntKind.i64 (ior IntKind.i64 (ishl IntKind.i64 (IntKind.i64.wrap (bt s (0 : Int))) (24 : Int)) (ishl IntKind.i64 (IntKind.i64.wrap (bt s (1 : Int))) (16 : Int))) (ishl IntKind.i64 (IntKind.i64.wrap (bt s (2 : Int))) (8 : Int))) (IntKind.i64.wrap (bt s (3 : Int))))) (K (SV.tup [SV.v (Value.string (ByteArray.mk (Array.mk []))), SV.v (Value.string (ByteArray.mk (Array.mk []))), SV.v (Value.bool false)]) [] []) (ob (decide ((0 : Int) ≤ ior IntKind.i64 (ior IntKind.i64 (ior IntKind.i64 (ishl IntKind.i64 (IntKind.i64.wrap (bt s (0 : Int))) (24 : Int)) (ishl IntKind.i64 (IntKind.i64.wrap (bt s (1 : Int))) (16 : Int))) (ishl IntKind.i64 (IntKind.i64.wrap (bt s (2 : Int))) (8 : Int))) (IntKind.i64.wrap (bt s (3 : Int)))) && decide (ior IntKind.i64 (ior IntKind.i64 (ior IntKind.i64 (ishl IntKind.i64 (IntKind.i64.wrap (bt s (0 : Int))) (24 : Int)) (ishl IntKind.i64 (IntKind.i64.wrap (bt s (1 : Int))) (16 : Int))) (ishl IntKind.i64 (IntKind.i64.wrap (bt s (2 : Int))) (8 : Int))) (IntKind.i64.wrap (bt s (3 : Int))) ≤ (↑(s.extract (4 : Nat) s.size).size : Int))) (ob (decide ((0 : Int) ≤ ior IntKind.i64 (ior IntKind.i64 (ior IntKind.i64 (ishl IntKind.i64 (IntKind.i64.wrap (bt s (0 : Int))) (24 : Int)) (ishl IntKind.i64 (IntKind.i64.wrap (bt s (1 : Int))) (16 : Int))) (ishl IntKind.i64 (IntKind.i64.wrap (bt s (2 : Int))) (8 : Int))) (IntKind.i64.wrap (bt s (3 : Int)))) && decide (ior IntKind.i64 (ior IntKind.i64 (ior IntKind.i64 (ishl IntKind.i64 (IntKind.i64.wrap (bt s (0 : Int))) (24 : Int)) (ishl IntKind.i64 (IntKind.i64.wrap (bt s (1 : Int))) (16 : Int))) (ishl IntKind.i64 (IntKind.i64.wrap (bt s (2 : Int))) (8 : Int))) (IntKind.i64.wrap (bt s (3 : Int))) ≤ (↑(s.extract (4 : Nat) s.size).size : Int))) (K (SV.tup [SV.v (Value.string ((s.extract (4 : Nat) s.size).extract (0 : Nat) (ior IntKind.i64 (ior IntKind.i64 (ior IntKind.i64 (ishl IntKind.i64 (IntKind.i64.wrap (bt s (0 : Int))) (24 : Int)) (ishl IntKind.i64 (IntKind.i64.wrap (bt s (1 : Int))) (16 : Int))) (ishl IntKind.i64 (IntKind.i64.wrap (bt s (2 : Int))) (8 : Int))) (IntKind.i64.wrap (bt s (3 : Int)))).toNat)), SV.v (Value.string ((s.extract (4 : Nat) s.size).extract (ior IntKind.i64 (ior IntKind.i64 (ior IntKind.i64 (ishl IntKind.i64 (IntKind.i64.wrap (bt s (0 : Int))) (24 : Int)) (ishl IntKind.i64 (IntKind.i64.wrap (bt s (1 : Int))) (16 : Int))) (ishl IntKind.i64 (IntKind.i64.wrap (bt s (2 : Int))) (8 : Int))) (IntKind.i64.wrap (bt s (3 : Int)))).toNat (s.extract (4 : Nat) s.size).size)), SV.v (Value.bool true)]) [] []))))))))))))) := by kernel_rfl
def nextS : Spec := .q fun args blks K => match args, blks with
  | [.v (.string x)], [] => ∃ t r : ByteArray, x = textB t ++ r ∧ t.size < 4294967296 ∧ r.size < 4294967296 ∧ K (.tup [.v (.string t), .v (.string r), .v (.bool true)])
  | _, _ => False
theorem bytesL_extract (s : ByteArray) (a b : Nat) : bytesL (s.extract a b) = ((bytesL s).drop a).take (b - a) := by
  unfold bytesL
  rw [Lib.extract_data, List.map_take, List.map_drop]
theorem bytesL_textB (t : ByteArray) : bytesL (textB t) = bytesL (fourB t.size) ++ bytesL t := by rw [textB, bytesL_append]
theorem nextS_ok : SpecOK Tryz.prog 98 nextS := by
  refine q_ro mixed .nil Tryz.func98 rfl rfl fun args blks K h => ?_
  split at h
  case h_2 => exact h.elim
  obtain ⟨t, r, rfl, ht, hr, hK⟩ := h
  refine ⟨_, rfl, hK, rfl, noI, ?_⟩
  rw [next_vf]
  have hb : bytesL (textB t ++ r) = [((t.size / 16777216 % 256 : Nat) : Int), ((t.size / 65536 % 256 : Nat) : Int), ((t.size / 256 % 256 : Nat) : Int), ((t.size % 256 : Nat) : Int)] ++ (bytesL t ++ bytesL r) := by
    rw [bytesL_append, bytesL_textB, fourB_bytes, List.append_assoc]
  have hsz : (textB t ++ r).size = t.size + 4 + r.size := by rw [ByteArray.size_append, textB_size]
  have b0 : bt (textB t ++ r) 0 = ((t.size / 16777216 % 256 : Nat) : Int) := (bt_bytesL _ 0).trans (by rw [hb]; rfl)
  have b1 : bt (textB t ++ r) 1 = ((t.size / 65536 % 256 : Nat) : Int) := (bt_bytesL _ 1).trans (by rw [hb]; rfl)
  have b2 : bt (textB t ++ r) 2 = ((t.size / 256 % 256 : Nat) : Int) := (bt_bytesL _ 2).trans (by rw [hb]; rfl)
  have b3 : bt (textB t ++ r) 3 = ((t.size % 256 : Nat) : Int) := (bt_bytesL _ 3).trans (by rw [hb]; rfl)
  have h4 : four4 (bt (textB t ++ r) 0) (bt (textB t ++ r) 1) (bt (textB t ++ r) 2) (bt (textB t ++ r) 3) = (t.size : Int) := by
    rw [b0, b1, b2, b3, four4_eq _ _ _ _ (Nat.mod_lt _ (by omega)) (Nat.mod_lt _ (by omega)) (Nat.mod_lt _ (by omega)) (Nat.mod_lt _ (by omega))]
    omega
  have hx : (textB t ++ r).extract 4 (textB t ++ r).size = t ++ r := by
    apply bytesL_inj
    rw [bytesL_extract, hb, bytesL_append, hsz]
    show (bytesL t ++ bytesL r).take _ = _
    rw [List.take_of_length_le]
    simp [bytesL_len]; omega
  unfold four4 at h4
  rw [hsz] at hx
  simp only [h4, hx, hsz, ByteArray.size_append, ob_t, Bool.true_and]
  refine bc_mk (fun h1 => ?_) (fun h1 => ?_)
  · have := of_decide_eq_true h1; omega
  refine ob_mk (decide_eq_true (by omega)) (ob_mk (decide_eq_true (by omega)) (ob_mk (decide_eq_true (by omega)) (ob_mk (decide_eq_true (by omega)) (ob_mk (decide_eq_true (by omega)) ?_))))
  refine bc_mk (fun h1 => ?_) (fun h1 => ?_)
  · have := of_decide_eq_true h1; omega
  have hle : (decide ((0 : Int) ≤ (t.size : Int)) && decide ((t.size : Int) ≤ ((t.size + r.size : Nat) : Int))) = true := by
    rw [Bool.and_eq_true]; exact ⟨decide_eq_true (by omega), decide_eq_true (by omega)⟩
  refine ob_mk hle (ob_mk hle ?_)
  rw [Int.toNat_natCast]
  have e1 : (t ++ r).extract 0 t.size = t := by
    apply bytesL_inj
    rw [bytesL_extract, bytesL_append, List.drop_zero, Nat.sub_zero, List.take_append_of_le_length (by rw [bytesL_len]; omega), List.take_of_length_le (by rw [bytesL_len]; omega)]
  have e2 : (t ++ r).extract t.size (t.size + r.size) = r := by
    apply bytesL_inj
    rw [bytesL_extract, bytesL_append, ← bytesL_len t, List.drop_left, List.take_of_length_le (by rw [bytesL_len, bytesL_len]; omega)]
  rw [e1, e2]
/-- The text at a place. -/
def nthS (ts : List ByteArray) (i : Nat) : ByteArray := ts.getD i (bstr [])
def rdSh (ts : List ByteArray) (k : Nat) : St := ⟨[(4, .slc 0 0 k k 1), (0, .v (.string (textsB (ts.drop k))))], 24, [.tab true k [.s (nthS ts)]], [], 0⟩
def rdI (ts : List ByteArray) : Nat → St → LK := fun _ _ => .inv ts.length (rdSh ts)
theorem readt_vf (ts : List ByteArray) (K : SV → List Blk → List Nat → Prop) : vf Tryz.prog [(98, nextS)] (rdI ts) Tryz.f71 [.v (.string (textsB ts))] [] K =
  (ob true (ob true (ob (seq (textsB ts) (textsB (List.drop (0 : Nat) ts))) (ob true True ∧ ∀ (k : Nat), k ≤ ts.length → bc (!seq (textsB (List.drop k ts)) (ByteArray.mk (Array.mk []))) (∃ (t : ByteArray), ∃ (r : ByteArray), textsB (List.drop k ts) = textB t ++ r ∧ t.size < (4294967296 : Nat) ∧ r.size < (4294967296 : Nat) ∧ ob true (ob ((k * (1 : Nat)).beq (k * (1 : Nat))) (ob (decide ((k + (1 : Nat)) * (16 : Nat) ≤ (140737488355328 : Nat))) (k < ts.length ∧ ob true (ob true (ob ((k + (1 : Nat)).beq (k + (1 : Nat))) (ob ((k + (1 : Nat)).ble (k + (1 : Nat))) (ob ((k + (1 : Nat)).ble (k + (1 : Nat))) (ob true (ob (seq r (textsB (List.drop (k + (1 : Nat)) ts))) (ob true (ob ((k + (1 : Nat)).ble (k + (1 : Nat))) ((∀ (r : Nat), r < k + (1 : Nat) → upF (nthS ts) k t r = nthS ts r) ∧ True))))))))))))) (K (SV.tup [SV.slc (0 : Nat) (0 : Nat) k k (1 : Nat), SV.v (Value.int IntKind.i64 (0 : Int))]) [Blk.tab true k [Col.s (nthS ts)]] []))))) := by kernel_rfl
theorem nthS_def (ts : List ByteArray) (i : Nat) : nthS ts i = ts.getD i (bstr []) := by rw [nthS]
theorem nthS_zero (t : ByteArray) (ts : List ByteArray) : nthS (t :: ts) 0 = t := by rw [nthS]; rfl
theorem nthS_succ (t : ByteArray) (ts : List ByteArray) (i : Nat) : nthS (t :: ts) (i + 1) = nthS ts i := by rw [nthS, nthS]; rfl
theorem drop_nthS : ∀ (ts : List ByteArray) (k : Nat), k < ts.length → ts.drop k = nthS ts k :: ts.drop (k + 1)
  | [], k, h => by simp at h
  | t :: ts, 0, _ => by rw [nthS_zero]; rfl
  | t :: ts, k + 1, h => by rw [nthS_succ, List.drop_succ_cons, List.drop_succ_cons]; exact drop_nthS ts k (by simpa using h)
theorem lenT_drop : ∀ (ts : List ByteArray) (k : Nat), lenT (ts.drop k) ≤ lenT ts
  | [], k => by simp [lenT]
  | t :: ts, 0 => Nat.le_refl _
  | t :: ts, k + 1 => by rw [List.drop_succ_cons, lenT]; exact Nat.le_trans (lenT_drop ts k) (by omega)
theorem lenT_ge (ts : List ByteArray) : 4 * ts.length ≤ lenT ts := by
  induction ts with
  | nil => simp [lenT]
  | cons t ts ih => rw [lenT, List.length_cons]; omega
/-- The texts of bytes. -/
def readS : Spec := .m fun args blks K => match args, blks with
  | [.v (.string x)], [] => ∃ ts : List ByteArray, x = textsB ts ∧ lenT ts < 4294967296 ∧ K (.tup [.slc 0 0 ts.length ts.length 1, .v (.int .i64 0)]) [.tab true ts.length [.s (nthS ts)]] []
  | _, _ => False
theorem readS_ok : SpecOK Tryz.prog 71 readS := by
  refine m_of mixed (.cons nextS_ok .nil) Tryz.func71 rfl rfl fun args blks K h => ?_
  split at h
  case h_2 => exact h.elim
  obtain ⟨ts, rfl, hl, hK⟩ := h
  refine ⟨rdI ts, 1, ?_⟩
  rw [readt_vf]
  have hlen := lenT_ge ts
  simp only [ob_t]
  refine ob_mk (by rw [seq_iff]; rfl) ⟨trivial, fun k hk => ?_⟩
  have hd := lenT_drop ts k
  refine bc_mk (fun h1 => ?_) (fun h1 => ?_)
  · have hne : k < ts.length := by
      rcases Nat.lt_or_ge k ts.length with h2 | h2
      · exact h2
      · rw [List.drop_eq_nil_of_le h2, textsB_nil, show seq (bstr []) { data := { toList := [] } } = true from (seq_iff _ _).2 rfl] at h1
        cases h1
    have he := drop_nthS ts k hne
    rw [he, lenT] at hd
    have hd2 := lenT_drop ts (k + 1)
    refine ⟨nthS ts k, textsB (ts.drop (k + 1)), by rw [he, textsB_cons], by omega, by rw [textsB_size]; omega, ob_mk (nbeq _) (ob_mk (decide_eq_true (by omega)) ⟨hne, ob_mk (nbeq _) (ob_mk (nble _) (ob_mk (nble _) (ob_mk (seq_rfl _) (ob_mk (nble _) ⟨fun r hr => ?_, trivial⟩))))⟩)⟩
    show cond (Nat.beq r k) (nthS ts k) (nthS ts r) = nthS ts r
    by_cases e : r = k
    · subst e; rw [Nat.beq_refl]; rfl
    · rw [beq_false e]; rfl
  · have hz : k = ts.length := by
      rcases Nat.lt_or_ge k ts.length with h2 | h2
      · exfalso
        rw [drop_nthS ts k h2, textsB_cons, seq_empty, ByteArray.size_append, textB_size] at h1
        have e : ((nthS ts k).size + 4 + (textsB (List.drop (k + 1) ts)).size == 0) = false := beq_eq_false_iff_ne.2 (by omega)
        rw [e] at h1
        cases h1
      · omega
    subst hz
    exact ⟨rfl, hK⟩

end Go.Proofs.YtmnenigmkfnciaaGreatDoor.Sx
/- wire.ReadCommand of a command's bytes. No condition. -/
namespace Go.Proofs.YtmnenigmkfnciaaGreatDoor.Sx
open Go Go.Proofs
set_option maxRecDepth 100000
set_option linter.unusedSimpArgs false
set_option linter.unusedVariables false

theorem one_vf (s : ByteArray) (K : SV → List Blk → List Nat → Prop) : vf Tryz.prog [] (noI) Tryz.f169 [.v (.string s)] [] K =
  (bc ((↑s.size : Int) != (1 : Int)) (K (SV.agg [SV.v (Value.int IntKind.i64 (0 : Int)), SV.v (Value.bool true)]) [Blk.cells true [SV.v (Value.int IntKind.i64 (0 : Int)), SV.v (Value.bool true)]] []) (ob (true && decide ((0 : Int) < (↑s.size : Int))) (K (SV.agg [SV.v (Value.int IntKind.i64 (IntKind.i64.wrap (bt s (0 : Int)))), SV.v (Value.bool false)]) [Blk.cells true [SV.v (Value.int IntKind.i64 (IntKind.i64.wrap (bt s (0 : Int)))), SV.v (Value.bool false)]] []))) := by kernel_rfl
def oneS : Spec := .q fun args blks K => match args, blks with
  | [.v (.string x)], [] => ∃ n : Int, x = byteB n ∧ ob (decide (0 ≤ n) && decide (n < 256)) (K (.agg [.v (.int .i64 n), .v (.bool false)]))
  | _, _ => False
theorem wtxt_vf (s : ByteArray) (K : SV → List Blk → List Nat → Prop) : vf Tryz.prog [] (noI) Tryz.f170 [.v (.string s)] [] K =
  (K (SV.agg [SV.v (Value.string s), SV.v (Value.bool false)]) [Blk.cells true [SV.v (Value.string s), SV.v (Value.bool false)]] []) := by kernel_rfl
def wtxtS : Spec := .q fun args blks K => match args, blks with
  | [.v (.string x)], [] => K (.agg [.v (.string x), .v (.bool false)])
  | _, _ => False
theorem rcmd_vf (s : ByteArray) (K : SV → List Blk → List Nat → Prop) : vf Tryz.prog [(168, inl Tryz.prog [(71, readS)] noI Tryz.f168), (169, oneS), (170, wtxtS), (59, checkS)] (noI) Tryz.f139 [.v (.string s)] [] K =
  (∃ (ts : List ByteArray), s = textsB ts ∧ lenT ts < (4294967296 : Nat) ∧ bc (!bif true then (↑ts.length : Int) == (4 : Int) else false) (K (SV.tup [SV.agg [SV.v (Value.int IntKind.i64 (0 : Int)), SV.v (Value.int IntKind.i64 (0 : Int)), SV.v (Value.string (ByteArray.mk (Array.mk []))), SV.v (Value.string (ByteArray.mk (Array.mk [])))], SV.v (Value.int IntKind.i64 (3 : Int))]) [Blk.cells true [SV.v (Value.int IntKind.i64 (0 : Int)), SV.v (Value.int IntKind.i64 (0 : Int)), SV.v (Value.string (ByteArray.mk (Array.mk []))), SV.v (Value.string (ByteArray.mk (Array.mk [])))], Blk.tab true ts.length [Col.s (nthS ts)]] []) (ob (true && decide ((0 : Int) < (↑ts.length : Int))) (ob (true && decide ((1 : Int) < (↑ts.length : Int))) (ob (true && decide ((2 : Int) < (↑ts.length : Int))) (ob (true && decide ((3 : Int) < (↑ts.length : Int))) (ob true (ob (decide ((0 : Nat) < ts.length)) (∃ (n : Int), nthS ts (0 : Nat) = byteB n ∧ ob (decide ((0 : Int) ≤ n) && decide (n < (256 : Int))) (ob true (ob (decide ((1 : Nat) < ts.length)) (∃ (n_1 : Int), nthS ts (1 : Nat) = byteB n_1 ∧ ob (decide ((0 : Int) ≤ n_1) && decide (n_1 < (256 : Int))) (ob true (ob (decide ((2 : Nat) < ts.length)) (ob true (ob (decide ((3 : Nat) < ts.length)) (((ob (decide ((nthS ts (2 : Nat)).size + (nthS ts (3 : Nat)).size ≤ (9223372036854775807 : Nat))) (bc (bif false then true else (if cmdOK n n_1 (nthS ts (2 : Nat)) (nthS ts (3 : Nat)) = true then (0 : Int) else (1 : Int)) != (0 : Int)) (K (SV.tup [SV.agg [SV.v (Value.int IntKind.i64 (0 : Int)), SV.v (Value.int IntKind.i64 (0 : Int)), SV.v (Value.string (ByteArray.mk (Array.mk []))), SV.v (Value.string (ByteArray.mk (Array.mk [])))], SV.v (Value.int IntKind.i64 (3 : Int))]) [Blk.cells true [SV.v (Value.int IntKind.i64 (0 : Int)), SV.v (Value.int IntKind.i64 (0 : Int)), SV.v (Value.string (ByteArray.mk (Array.mk []))), SV.v (Value.string (ByteArray.mk (Array.mk [])))], Blk.tab true ts.length [Col.s (nthS ts)], Blk.cells true [SV.v (Value.int IntKind.i64 n), SV.v (Value.bool false)], Blk.cells true [SV.v (Value.int IntKind.i64 n_1), SV.v (Value.bool false)], Blk.cells true [SV.v (Value.string (nthS ts (2 : Nat))), SV.v (Value.bool false)], Blk.cells true [SV.v (Value.string (nthS ts (3 : Nat))), SV.v (Value.bool false)], Blk.cells true [SV.v (Value.int IntKind.i64 n), SV.v (Value.int IntKind.i64 n_1), SV.v (Value.string (nthS ts (2 : Nat))), SV.v (Value.string (nthS ts (3 : Nat)))]] []) (K (SV.tup [SV.agg [SV.v (Value.int IntKind.i64 n), SV.v (Value.int IntKind.i64 n_1), SV.v (Value.string (nthS ts (2 : Nat))), SV.v (Value.string (nthS ts (3 : Nat)))], SV.v (Value.int IntKind.i64 (0 : Int))]) [Blk.cells true [SV.v (Value.int IntKind.i64 n), SV.v (Value.int IntKind.i64 n_1), SV.v (Value.string (nthS ts (2 : Nat))), SV.v (Value.string (nthS ts (3 : Nat)))], Blk.tab true ts.length [Col.s (nthS ts)], Blk.cells true [SV.v (Value.int IntKind.i64 n), SV.v (Value.bool false)], Blk.cells true [SV.v (Value.int IntKind.i64 n_1), SV.v (Value.bool false)], Blk.cells true [SV.v (Value.string (nthS ts (2 : Nat))), SV.v (Value.bool false)], Blk.cells true [SV.v (Value.string (nthS ts (3 : Nat))), SV.v (Value.bool false)], Blk.cells true [SV.v (Value.int IntKind.i64 n), SV.v (Value.int IntKind.i64 n_1), SV.v (Value.string (nthS ts (2 : Nat))), SV.v (Value.string (nthS ts (3 : Nat)))]] [])) ∧ ob (decide ((nthS ts (2 : Nat)).size + (nthS ts (3 : Nat)).size ≤ (9223372036854775807 : Nat))) (bc (bif false then true else (if cmdOK n n_1 (nthS ts (2 : Nat)) (nthS ts (3 : Nat)) = true then (0 : Int) else (1 : Int)) != (0 : Int)) (K (SV.tup [SV.agg [SV.v (Value.int IntKind.i64 (0 : Int)), SV.v (Value.int IntKind.i64 (0 : Int)), SV.v (Value.string (ByteArray.mk (Array.mk []))), SV.v (Value.string (ByteArray.mk (Array.mk [])))], SV.v (Value.int IntKind.i64 (3 : Int))]) [Blk.cells true [SV.v (Value.int IntKind.i64 (0 : Int)), SV.v (Value.int IntKind.i64 (0 : Int)), SV.v (Value.string (ByteArray.mk (Array.mk []))), SV.v (Value.string (ByteArray.mk (Array.mk [])))], Blk.tab true ts.length [Col.s (nthS ts)], Blk.cells true [SV.v (Value.int IntKind.i64 n), SV.v (Value.bool false)], Blk.cells true [SV.v (Value.int IntKind.i64 n_1), SV.v (Value.bool false)], Blk.cells true [SV.v (Value.string (nthS ts (3 : Nat))), SV.v (Value.bool false)], Blk.cells true [SV.v (Value.string (nthS ts (2 : Nat))), SV.v (Value.bool false)], Blk.cells true [SV.v (Value.int IntKind.i64 n), SV.v (Value.int IntKind.i64 n_1), SV.v (Value.string (nthS ts (2 : Nat))), SV.v (Value.string (nthS ts (3 : Nat)))]] []) (K (SV.tup [SV.agg [SV.v (Value.int IntKind.i64 n), SV.v (Value.int IntKind.i64 n_1), SV.v (Value.string (nthS ts (2 : Nat))), SV.v (Value.string (nthS ts (3 : Nat)))], SV.v (Value.int IntKind.i64 (0 : Int))]) [Blk.cells true [SV.v (Value.int IntKind.i64 n), SV.v (Value.int IntKind.i64 n_1), SV.v (Value.string (nthS ts (2 : Nat))), SV.v (Value.string (nthS ts (3 : Nat)))], Blk.tab true ts.length [Col.s (nthS ts)], Blk.cells true [SV.v (Value.int IntKind.i64 n), SV.v (Value.bool false)], Blk.cells true [SV.v (Value.int IntKind.i64 n_1), SV.v (Value.bool false)], Blk.cells true [SV.v (Value.string (nthS ts (3 : Nat))), SV.v (Value.bool false)], Blk.cells true [SV.v (Value.string (nthS ts (2 : Nat))), SV.v (Value.bool false)], Blk.cells true [SV.v (Value.int IntKind.i64 n), SV.v (Value.int IntKind.i64 n_1), SV.v (Value.string (nthS ts (2 : Nat))), SV.v (Value.string (nthS ts (3 : Nat)))]] []))) ∧ (ob (decide ((nthS ts (2 : Nat)).size + (nthS ts (3 : Nat)).size ≤ (9223372036854775807 : Nat))) (bc (bif false then true else (if cmdOK n n_1 (nthS ts (2 : Nat)) (nthS ts (3 : Nat)) = true then (0 : Int) else (1 : Int)) != (0 : Int)) (K (SV.tup [SV.agg [SV.v (Value.int IntKind.i64 (0 : Int)), SV.v (Value.int IntKind.i64 (0 : Int)), SV.v (Value.string (ByteArray.mk (Array.mk []))), SV.v (Value.string (ByteArray.mk (Array.mk [])))], SV.v (Value.int IntKind.i64 (3 : Int))]) [Blk.cells true [SV.v (Value.int IntKind.i64 (0 : Int)), SV.v (Value.int IntKind.i64 (0 : Int)), SV.v (Value.string (ByteArray.mk (Array.mk []))), SV.v (Value.string (ByteArray.mk (Array.mk [])))], Blk.tab true ts.length [Col.s (nthS ts)], Blk.cells true [SV.v (Value.int IntKind.i64 n), SV.v (Value.bool false)], Blk.cells true [SV.v (Value.string (nthS ts (2 : Nat))), SV.v (Value.bool false)], Blk.cells true [SV.v (Value.int IntKind.i64 n_1), SV.v (Value.bool false)], Blk.cells true [SV.v (Value.string (nthS ts (3 : Nat))), SV.v (Value.bool false)], Blk.cells true [SV.v (Value.int IntKind.i64 n), SV.v (Value.int IntKind.i64 n_1), SV.v (Value.string (nthS ts (2 : Nat))), SV.v (Value.string (nthS ts (3 : Nat)))]] []) (K (SV.tup [SV.agg [SV.v (Value.int IntKind.i64 n), SV.v (Value.int IntKind.i64 n_1), SV.v (Value.string (nthS ts (2 : Nat))), SV.v (Value.string (nthS ts (3 : Nat)))], SV.v (Value.int IntKind.i64 (0 : Int))]) [Blk.cells true [SV.v (Value.int IntKind.i64 n), SV.v (Value.int IntKind.i64 n_1), SV.v (Value.string (nthS ts (2 : Nat))), SV.v (Value.string (nthS ts (3 : Nat)))], Blk.tab true ts.length [Col.s (nthS ts)], Blk.cells true [SV.v (Value.int IntKind.i64 n), SV.v (Value.bool false)], Blk.cells true [SV.v (Value.string (nthS ts (2 : Nat))), SV.v (Value.bool false)], Blk.cells true [SV.v (Value.int IntKind.i64 n_1), SV.v (Value.bool false)], Blk.cells true [SV.v (Value.string (nthS ts (3 : Nat))), SV.v (Value.bool false)], Blk.cells true [SV.v (Value.int IntKind.i64 n), SV.v (Value.int IntKind.i64 n_1), SV.v (Value.string (nthS ts (2 : Nat))), SV.v (Value.string (nthS ts (3 : Nat)))]] [])) ∧ ob (decide ((nthS ts (2 : Nat)).size + (nthS ts (3 : Nat)).size ≤ (9223372036854775807 : Nat))) (bc (bif false then true else (if cmdOK n n_1 (nthS ts (2 : Nat)) (nthS ts (3 : Nat)) = true then (0 : Int) else (1 : Int)) != (0 : Int)) (K (SV.tup [SV.agg [SV.v (Value.int IntKind.i64 (0 : Int)), SV.v (Value.int IntKind.i64 (0 : Int)), SV.v (Value.string (ByteArray.mk (Array.mk []))), SV.v (Value.string (ByteArray.mk (Array.mk [])))], SV.v (Value.int IntKind.i64 (3 : Int))]) [Blk.cells true [SV.v (Value.int IntKind.i64 (0 : Int)), SV.v (Value.int IntKind.i64 (0 : Int)), SV.v (Value.string (ByteArray.mk (Array.mk []))), SV.v (Value.string (ByteArray.mk (Array.mk [])))], Blk.tab true ts.length [Col.s (nthS ts)], Blk.cells true [SV.v (Value.int IntKind.i64 n), SV.v (Value.bool false)], Blk.cells true [SV.v (Value.string (nthS ts (2 : Nat))), SV.v (Value.bool false)], Blk.cells true [SV.v (Value.string (nthS ts (3 : Nat))), SV.v (Value.bool false)], Blk.cells true [SV.v (Value.int IntKind.i64 n_1), SV.v (Value.bool false)], Blk.cells true [SV.v (Value.int IntKind.i64 n), SV.v (Value.int IntKind.i64 n_1), SV.v (Value.string (nthS ts (2 : Nat))), SV.v (Value.string (nthS ts (3 : Nat)))]] []) (K (SV.tup [SV.agg [SV.v (Value.int IntKind.i64 n), SV.v (Value.int IntKind.i64 n_1), SV.v (Value.string (nthS ts (2 : Nat))), SV.v (Value.string (nthS ts (3 : Nat)))], SV.v (Value.int IntKind.i64 (0 : Int))]) [Blk.cells true [SV.v (Value.int IntKind.i64 n), SV.v (Value.int IntKind.i64 n_1), SV.v (Value.string (nthS ts (2 : Nat))), SV.v (Value.string (nthS ts (3 : Nat)))], Blk.tab true ts.length [Col.s (nthS ts)], Blk.cells true [SV.v (Value.int IntKind.i64 n), SV.v (Value.bool false)], Blk.cells true [SV.v (Value.string (nthS ts (2 : Nat))), SV.v (Value.bool false)], Blk.cells true [SV.v (Value.string (nthS ts (3 : Nat))), SV.v (Value.bool false)], Blk.cells true [SV.v (Value.int IntKind.i64 n_1), SV.v (Value.bool false)], Blk.cells true [SV.v (Value.int IntKind.i64 n), SV.v (Value.int IntKind.i64 n_1), SV.v (Value.string (nthS ts (2 : Nat))), SV.v (Value.string (nthS ts (3 : Nat)))]] []))) ∧ ob (decide ((nthS ts (2 : Nat)).size + (nthS ts (3 : Nat)).size ≤ (9223372036854775807 : Nat))) (bc (bif false then true else (if cmdOK n n_1 (nthS ts (2 : Nat)) (nthS ts (3 : Nat)) = true then (0 : Int) else (1 : Int)) != (0 : Int)) (K (SV.tup [SV.agg [SV.v (Value.int IntKind.i64 (0 : Int)), SV.v (Value.int IntKind.i64 (0 : Int)), SV.v (Value.string (ByteArray.mk (Array.mk []))), SV.v (Value.string (ByteArray.mk (Array.mk [])))], SV.v (Value.int IntKind.i64 (3 : Int))]) [Blk.cells true [SV.v (Value.int IntKind.i64 (0 : Int)), SV.v (Value.int IntKind.i64 (0 : Int)), SV.v (Value.string (ByteArray.mk (Array.mk []))), SV.v (Value.string (ByteArray.mk (Array.mk [])))], Blk.tab true ts.length [Col.s (nthS ts)], Blk.cells true [SV.v (Value.int IntKind.i64 n), SV.v (Value.bool false)], Blk.cells true [SV.v (Value.string (nthS ts (3 : Nat))), SV.v (Value.bool false)], Blk.cells true [SV.v (Value.int IntKind.i64 n_1), SV.v (Value.bool false)], Blk.cells true [SV.v (Value.string (nthS ts (2 : Nat))), SV.v (Value.bool false)], Blk.cells true [SV.v (Value.int IntKind.i64 n), SV.v (Value.int IntKind.i64 n_1), SV.v (Value.string (nthS ts (2 : Nat))), SV.v (Value.string (nthS ts (3 : Nat)))]] []) (K (SV.tup [SV.agg [SV.v (Value.int IntKind.i64 n), SV.v (Value.int IntKind.i64 n_1), SV.v (Value.string (nthS ts (2 : Nat))), SV.v (Value.string (nthS ts (3 : Nat)))], SV.v (Value.int IntKind.i64 (0 : Int))]) [Blk.cells true [SV.v (Value.int IntKind.i64 n), SV.v (Value.int IntKind.i64 n_1), SV.v (Value.string (nthS ts (2 : Nat))), SV.v (Value.string (nthS ts (3 : Nat)))], Blk.tab true ts.length [Col.s (nthS ts)], Blk.cells true [SV.v (Value.int IntKind.i64 n), SV.v (Value.bool false)], Blk.cells true [SV.v (Value.string (nthS ts (3 : Nat))), SV.v (Value.bool false)], Blk.cells true [SV.v (Value.int IntKind.i64 n_1), SV.v (Value.bool false)], Blk.cells true [SV.v (Value.string (nthS ts (2 : Nat))), SV.v (Value.bool false)], Blk.cells true [SV.v (Value.int IntKind.i64 n), SV.v (Value.int IntKind.i64 n_1), SV.v (Value.string (nthS ts (2 : Nat))), SV.v (Value.string (nthS ts (3 : Nat)))]] [])) ∧ ob (decide ((nthS ts (2 : Nat)).size + (nthS ts (3 : Nat)).size ≤ (9223372036854775807 : Nat))) (bc (bif false then true else (if cmdOK n n_1 (nthS ts (2 : Nat)) (nthS ts (3 : Nat)) = true then (0 : Int) else (1 : Int)) != (0 : Int)) (K (SV.tup [SV.agg [SV.v (Value.int IntKind.i64 (0 : Int)), SV.v (Value.int IntKind.i64 (0 : Int)), SV.v (Value.string (ByteArray.mk (Array.mk []))), SV.v (Value.string (ByteArray.mk (Array.mk [])))], SV.v (Value.int IntKind.i64 (3 : Int))]) [Blk.cells true [SV.v (Value.int IntKind.i64 (0 : Int)), SV.v (Value.int IntKind.i64 (0 : Int)), SV.v (Value.string (ByteArray.mk (Array.mk []))), SV.v (Value.string (ByteArray.mk (Array.mk [])))], Blk.tab true ts.length [Col.s (nthS ts)], Blk.cells true [SV.v (Value.int IntKind.i64 n), SV.v (Value.bool false)], Blk.cells true [SV.v (Value.string (nthS ts (3 : Nat))), SV.v (Value.bool false)], Blk.cells true [SV.v (Value.string (nthS ts (2 : Nat))), SV.v (Value.bool false)], Blk.cells true [SV.v (Value.int IntKind.i64 n_1), SV.v (Value.bool false)], Blk.cells true [SV.v (Value.int IntKind.i64 n), SV.v (Value.int IntKind.i64 n_1), SV.v (Value.string (nthS ts (2 : Nat))), SV.v (Value.string (nthS ts (3 : Nat)))]] []) (K (SV.tup [SV.agg [SV.v (Value.int IntKind.i64 n), SV.v (Value.int IntKind.i64 n_1), SV.v (Value.string (nthS ts (2 : Nat))), SV.v (Value.string (nthS ts (3 : Nat)))], SV.v (Value.int IntKind.i64 (0 : Int))]) [Blk.cells true [SV.v (Value.int IntKind.i64 n), SV.v (Value.int IntKind.i64 n_1), SV.v (Value.string (nthS ts (2 : Nat))), SV.v (Value.string (nthS ts (3 : Nat)))], Blk.tab true ts.length [Col.s (nthS ts)], Blk.cells true [SV.v (Value.int IntKind.i64 n), SV.v (Value.bool false)], Blk.cells true [SV.v (Value.string (nthS ts (3 : Nat))), SV.v (Value.bool false)], Blk.cells true [SV.v (Value.string (nthS ts (2 : Nat))), SV.v (Value.bool false)], Blk.cells true [SV.v (Value.int IntKind.i64 n_1), SV.v (Value.bool false)], Blk.cells true [SV.v (Value.int IntKind.i64 n), SV.v (Value.int IntKind.i64 n_1), SV.v (Value.string (nthS ts (2 : Nat))), SV.v (Value.string (nthS ts (3 : Nat)))]] []))) ∧ ((ob (decide ((nthS ts (2 : Nat)).size + (nthS ts (3 : Nat)).size ≤ (9223372036854775807 : Nat))) (bc (bif false then true else (if cmdOK n n_1 (nthS ts (2 : Nat)) (nthS ts (3 : Nat)) = true then (0 : Int) else (1 : Int)) != (0 : Int)) (K (SV.tup [SV.agg [SV.v (Value.int IntKind.i64 (0 : Int)), SV.v (Value.int IntKind.i64 (0 : Int)), SV.v (Value.string (ByteArray.mk (Array.mk []))), SV.v (Value.string (ByteArray.mk (Array.mk [])))], SV.v (Value.int IntKind.i64 (3 : Int))]) [Blk.cells true [SV.v (Value.int IntKind.i64 (0 : Int)), SV.v (Value.int IntKind.i64 (0 : Int)), SV.v (Value.string (ByteArray.mk (Array.mk []))), SV.v (Value.string (ByteArray.mk (Array.mk [])))], Blk.tab true ts.length [Col.s (nthS ts)], Blk.cells true [SV.v (Value.int IntKind.i64 n_1), SV.v (Value.bool false)], Blk.cells true [SV.v (Value.int IntKind.i64 n), SV.v (Value.bool false)], Blk.cells true [SV.v (Value.string (nthS ts (2 : Nat))), SV.v (Value.bool false)], Blk.cells true [SV.v (Value.string (nthS ts (3 : Nat))), SV.v (Value.bool false)], Blk.cells true [SV.v (Value.int IntKind.i64 n), SV.v (Value.int IntKind.i64 n_1), SV.v (Value.string (nthS ts (2 : Nat))), SV.v (Value.string (nthS ts (3 : Nat)))]] []) (K (SV.tup [SV.agg [SV.v (Value.int IntKind.i64 n), SV.v (Value.int IntKind.i64 n_1), SV.v (Value.string (nthS ts (2 : Nat))), SV.v (Value.string (nthS ts (3 : Nat)))], SV.v (Value.int IntKind.i64 (0 : Int))]) [Blk.cells true [SV.v (Value.int IntKind.i64 n), SV.v (Value.int IntKind.i64 n_1), SV.v (Value.string (nthS ts (2 : Nat))), SV.v (Value.string (nthS ts (3 : Nat)))], Blk.tab true ts.length [Col.s (nthS ts)], Blk.cells true [SV.v (Value.int IntKind.i64 n_1), SV.v (Value.bool false)], Blk.cells true [SV.v (Value.int IntKind.i64 n), SV.v (Value.bool false)], Blk.cells true [SV.v (Value.string (nthS ts (2 : Nat))), SV.v (Value.bool false)], Blk.cells true [SV.v (Value.string (nthS ts (3 : Nat))), SV.v (Value.bool false)], Blk.cells true [SV.v (Value.int IntKind.i64 n), SV.v (Value.int IntKind.i64 n_1), SV.v (Value.string (nthS ts (2 : Nat))), SV.v (Value.string (nthS ts (3 : Nat)))]] [])) ∧ ob (decide ((nthS ts (2 : Nat)).size + (nthS ts (3 : Nat)).size ≤ (9223372036854775807 : Nat))) (bc (bif false then true else (if cmdOK n n_1 (nthS ts (2 : Nat)) (nthS ts (3 : Nat)) = true then (0 : Int) else (1 : Int)) != (0 : Int)) (K (SV.tup [SV.agg [SV.v (Value.int IntKind.i64 (0 : Int)), SV.v (Value.int IntKind.i64 (0 : Int)), SV.v (Value.string (ByteArray.mk (Array.mk []))), SV.v (Value.string (ByteArray.mk (Array.mk [])))], SV.v (Value.int IntKind.i64 (3 : Int))]) [Blk.cells true [SV.v (Value.int IntKind.i64 (0 : Int)), SV.v (Value.int IntKind.i64 (0 : Int)), SV.v (Value.string (ByteArray.mk (Array.mk []))), SV.v (Value.string (ByteArray.mk (Array.mk [])))], Blk.tab true ts.length [Col.s (nthS ts)], Blk.cells true [SV.v (Value.int IntKind.i64 n_1), SV.v (Value.bool false)], Blk.cells true [SV.v (Value.int IntKind.i64 n), SV.v (Value.bool false)], Blk.cells true [SV.v (Value.string (nthS ts (3 : Nat))), SV.v (Value.bool false)], Blk.cells true [SV.v (Value.string (nthS ts (2 : Nat))), SV.v (Value.bool false)], Blk.cells true [SV.v (Value.int IntKind.i64 n), SV.v (Value.int IntKind.i64 n_1), SV.v (Value.string (nthS ts (2 : Nat))), SV.v (Value.string (nthS ts (3 : Nat)))]] []) (K (SV.tup [SV.agg [SV.v (Value.int IntKind.i64 n), SV.v (Value.int IntKind.i64 n_1), SV.v (Value.string (nthS ts (2 : Nat))), SV.v (Value.string (nthS ts (3 : Nat)))], SV.v (Value.int IntKind.i64 (0 : Int))]) [Blk.cells true [SV.v (Value.int IntKind.i64 n), SV.v (Value.int IntKind.i64 n_1), SV.v (Value.string (nthS ts (2 : Nat))), SV.v (Value.string (nthS ts (3 : Nat)))], Blk.tab true ts.length [Col.s (nthS ts)], Blk.cells true [SV.v (Value.int IntKind.i64 n_1), SV.v (Value.bool false)], Blk.cells true [SV.v (Value.int IntKind.i64 n), SV.v (Value.bool false)], Blk.cells true [SV.v (Value.string (nthS ts (3 : Nat))), SV.v (Value.bool false)], Blk.cells true [SV.v (Value.string (nthS ts (2 : Nat))), SV.v (Value.bool false)], Blk.cells true [SV.v (Value.int IntKind.i64 n), SV.v (Value.int IntKind.i64 n_1), SV.v (Value.string (nthS ts (2 : Nat))), SV.v (Value.string (nthS ts (3 : Nat)))]] []))) ∧ (ob (decide ((nthS ts (2 : Nat)).size + (nthS ts (3 : Nat)).size ≤ (9223372036854775807 : Nat))) (bc (bif false then true else (if cmdOK n n_1 (nthS ts (2 : Nat)) (nthS ts (3 : Nat)) = true then (0 : Int) else (1 : Int)) != (0 : Int)) (K (SV.tup [SV.agg [SV.v (Value.int IntKind.i64 (0 : Int)), SV.v (Value.int IntKind.i64 (0 : Int)), SV.v (Value.string (ByteArray.mk (Array.mk []))), SV.v (Value.string (ByteArray.mk (Array.mk [])))], SV.v (Value.int IntKind.i64 (3 : Int))]) [Blk.cells true [SV.v (Value.int IntKind.i64 (0 : Int)), SV.v (Value.int IntKind.i64 (0 : Int)), SV.v (Value.string (ByteArray.mk (Array.mk []))), SV.v (Value.string (ByteArray.mk (Array.mk [])))], Blk.tab true ts.length [Col.s (nthS ts)], Blk.cells true [SV.v (Value.int IntKind.i64 n_1), SV.v (Value.bool false)], Blk.cells true [SV.v (Value.string (nthS ts (2 : Nat))), SV.v (Value.bool false)], Blk.cells true [SV.v (Value.int IntKind.i64 n), SV.v (Value.bool false)], Blk.cells true [SV.v (Value.string (nthS ts (3 : Nat))), SV.v (Value.bool false)], Blk.cells true [SV.v (Value.int IntKind.i64 n), SV.v (Value.int IntKind.i64 n_1), SV.v (Value.string (nthS ts (2 : Nat))), SV.v (Value.string (nthS ts (3 : Nat)))]] []) (K (SV.tup [SV.agg [SV.v (Value.int IntKind.i64 n), SV.v (Value.int IntKind.i64 n_1), SV.v (Value.string (nthS ts (2 : Nat))), SV.v (Value.string (nthS ts (3 : Nat)))], SV.v (Value.int IntKind.i64 (0 : Int))]) [Blk.cells true [SV.v (Value.int IntKind.i64 n), SV.v (Value.int IntKind.i64 n_1), SV.v (Value.string (nthS ts (2 : Nat))), SV.v (Value.string (nthS ts (3 : Nat)))], Blk.tab true ts.length [Col.s (nthS ts)], Blk.cells true [SV.v (Value.int IntKind.i64 n_1), SV.v (Value.bool false)], Blk.cells true [SV.v (Value.string (nthS ts (2 : Nat))), SV.v (Value.bool false)], Blk.cells true [SV.v (Value.int IntKind.i64 n), SV.v (Value.bool false)], Blk.cells true [SV.v (Value.string (nthS ts (3 : Nat))), SV.v (Value.bool false)], Blk.cells true [SV.v (Value.int IntKind.i64 n), SV.v (Value.int IntKind.i64 n_1), SV.v (Value.string (nthS ts (2 : Nat))), SV.v (Value.string (nthS ts (3 : Nat)))]] [])) ∧ ob (decide ((nthS ts (2 : Nat)).size + (nthS ts (3 : Nat)).size ≤ (9223372036854775807 : Nat))) (bc (bif false then true else (if cmdOK n n_1 (nthS ts (2 : Nat)) (nthS ts (3 : Nat)) = true then (0 : Int) else (1 : Int)) != (0 : Int)) (K (SV.tup [SV.agg [SV.v (Value.int IntKind.i64 (0 : Int)), SV.v (Value.int IntKind.i64 (0 : Int)), SV.v (Value.string (ByteArray.mk (Array.mk []))), SV.v (Value.string (ByteArray.mk (Array.mk [])))], SV.v (Value.int IntKind.i64 (3 : Int))]) [Blk.cells true [SV.v (Value.int IntKind.i64 (0 : Int)), SV.v (Value.int IntKind.i64 (0 : Int)), SV.v (Value.string (ByteArray.mk (Array.mk []))), SV.v (Value.string (ByteArray.mk (Array.mk [])))], Blk.tab true ts.length [Col.s (nthS ts)], Blk.cells true [SV.v (Value.int IntKind.i64 n_1), SV.v (Value.bool false)], Blk.cells true [SV.v (Value.string (nthS ts (2 : Nat))), SV.v (Value.bool false)], Blk.cells true [SV.v (Value.string (nthS ts (3 : Nat))), SV.v (Value.bool false)], Blk.cells true [SV.v (Value.int IntKind.i64 n), SV.v (Value.bool false)], Blk.cells true [SV.v (Value.int IntKind.i64 n), SV.v (Value.int IntKind.i64 n_1), SV.v (Value.string (nthS ts (2 : Nat))), SV.v (Value.string (nthS ts (3 : Nat)))]] []) (K (SV.tup [SV.agg [SV.v (Value.int IntKind.i64 n), SV.v (Value.int IntKind.i64 n_1), SV.v (Value.string (nthS ts (2 : Nat))), SV.v (Value.string (nthS ts (3 : Nat)))], SV.v (Value.int IntKind.i64 (0 : Int))]) [Blk.cells true [SV.v (Value.int IntKind.i64 n), SV.v (Value.int IntKind.i64 n_1), SV.v (Value.string (nthS ts (2 : Nat))), SV.v (Value.string (nthS ts (3 : Nat)))], Blk.tab true ts.length [Col.s (nthS ts)], Blk.cells true [SV.v (Value.int IntKind.i64 n_1), SV.v (Value.bool false)], Blk.cells true [SV.v (Value.string (nthS ts (2 : Nat))), SV.v (Value.bool false)], Blk.cells true [SV.v (Value.string (nthS ts (3 : Nat))), SV.v (Value.bool false)], Blk.cells true [SV.v (Value.int IntKind.i64 n), SV.v (Value.bool false)], Blk.cells true [SV.v (Value.int IntKind.i64 n), SV.v (Value.int IntKind.i64 n_1), SV.v (Value.string (nthS ts (2 : Nat))), SV.v (Value.string (nthS ts (3 : Nat)))]] []))) ∧ ob (decide ((nthS ts (2 : Nat)).size + (nthS ts (3 : Nat)).size ≤ (9223372036854775807 : Nat))) (bc (bif false then true else (if cmdOK n n_1 (nthS ts (2 : Nat)) (nthS ts (3 : Nat)) = true then (0 : Int) else (1 : Int)) != (0 : Int)) (K (SV.tup [SV.agg [SV.v (Value.int IntKind.i64 (0 : Int)), SV.v (Value.int IntKind.i64 (0 : Int)), SV.v (Value.string (ByteArray.mk (Array.mk []))), SV.v (Value.string (ByteArray.mk (Array.mk [])))], SV.v (Value.int IntKind.i64 (3 : Int))]) [Blk.cells true [SV.v (Value.int IntKind.i64 (0 : Int)), SV.v (Value.int IntKind.i64 (0 : Int)), SV.v (Value.string (ByteArray.mk (Array.mk []))), SV.v (Value.string (ByteArray.mk (Array.mk [])))], Blk.tab true ts.length [Col.s (nthS ts)], Blk.cells true [SV.v (Value.int IntKind.i64 n_1), SV.v (Value.bool false)], Blk.cells true [SV.v (Value.string (nthS ts (3 : Nat))), SV.v (Value.bool false)], Blk.cells true [SV.v (Value.int IntKind.i64 n), SV.v (Value.bool false)], Blk.cells true [SV.v (Value.string (nthS ts (2 : Nat))), SV.v (Value.bool false)], Blk.cells true [SV.v (Value.int IntKind.i64 n), SV.v (Value.int IntKind.i64 n_1), SV.v (Value.string (nthS ts (2 : Nat))), SV.v (Value.string (nthS ts (3 : Nat)))]] []) (K (SV.tup [SV.agg [SV.v (Value.int IntKind.i64 n), SV.v (Value.int IntKind.i64 n_1), SV.v (Value.string (nthS ts (2 : Nat))), SV.v (Value.string (nthS ts (3 : Nat)))], SV.v (Value.int IntKind.i64 (0 : Int))]) [Blk.cells true [SV.v (Value.int IntKind.i64 n), SV.v (Value.int IntKind.i64 n_1), SV.v (Value.string (nthS ts (2 : Nat))), SV.v (Value.string (nthS ts (3 : Nat)))], Blk.tab true ts.length [Col.s (nthS ts)], Blk.cells true [SV.v (Value.int IntKind.i64 n_1), SV.v (Value.bool false)], Blk.cells true [SV.v (Value.string (nthS ts (3 : Nat))), SV.v (Value.bool false)], Blk.cells true [SV.v (Value.int IntKind.i64 n), SV.v (Value.bool false)], Blk.cells true [SV.v (Value.string (nthS ts (2 : Nat))), SV.v (Value.bool false)], Blk.cells true [SV.v (Value.int IntKind.i64 n), SV.v (Value.int IntKind.i64 n_1), SV.v (Value.string (nthS ts (2 : Nat))), SV.v (Value.string (nthS ts (3 : Nat)))]] [])) ∧ ob (decide ((nthS ts (2 : Nat)).size + (nthS ts (3 : Nat)).size ≤ (9223372036854775807 : Nat))) (bc (bif false then true else (if cmdOK n n_1 (nthS ts (2 : Nat)) (nthS ts (3 : Nat)) = true then (0 : Int) else (1 : Int)) != (0 : Int)) (K (SV.tup [SV.agg [SV.v (Value.int IntKind.i64 (0 : Int)), SV.v (Value.int IntKind.i64 (0 : Int)), SV.v (Value.string (ByteArray.mk (Array.mk []))), SV.v (Value.string (ByteArray.mk (Array.mk [])))], SV.v (Value.int IntKind.i64 (3 : Int))]) [Blk.cells true [SV.v (Value.int IntKind.i64 (0 : Int)), SV.v (Value.int IntKind.i64 (0 : Int)), SV.v (Value.string (ByteArray.mk (Array.mk []))), SV.v (Value.string (ByteArray.mk (Array.mk [])))], Blk.tab true ts.length [Col.s (nthS ts)], Blk.cells true [SV.v (Value.int IntKind.i64 n_1), SV.v (Value.bool false)], Blk.cells true [SV.v (Value.string (nthS ts (3 : Nat))), SV.v (Value.bool false)], Blk.cells true [SV.v (Value.string (nthS ts (2 : Nat))), SV.v (Value.bool false)], Blk.cells true [SV.v (Value.int IntKind.i64 n), SV.v (Value.bool false)], Blk.cells true [SV.v (Value.int IntKind.i64 n), SV.v (Value.int IntKind.i64 n_1), SV.v (Value.string (nthS ts (2 : Nat))), SV.v (Value.string (nthS ts (3 : Nat)))]] []) (K (SV.tup [SV.agg [SV.v (Value.int IntKind.i64 n), SV.v (Value.int IntKind.i64 n_1), SV.v (Value.string (nthS ts (2 : Nat))), SV.v (Value.string (nthS ts (3 : Nat)))], SV.v (Value.int IntKind.i64 (0 : Int))]) [Blk.cells true [SV.v (Value.int IntKind.i64 n), SV.v (Value.int IntKind.i64 n_1), SV.v (Value.string (nthS ts (2 : Nat))), SV.v (Value.string (nthS ts (3 : Nat)))], Blk.tab true ts.length [Col.s (nthS ts)], Blk.cells true [SV.v (Value.int IntKind.i64 n_1), SV.v (Value.bool false)], Blk.cells true [SV.v (Value.string (nthS ts (3 : Nat))), SV.v (Value.bool false)], Blk.cells true [SV.v (Value.string (nthS ts (2 : Nat))), SV.v (Value.bool false)], Blk.cells true [SV.v (Value.int IntKind.i64 n), SV.v (Value.bool false)], Blk.cells true [SV.v (Value.int IntKind.i64 n), SV.v (Value.int IntKind.i64 n_1), SV.v (Value.string (nthS ts (2 : Nat))), SV.v (Value.string (nthS ts (3 : Nat)))]] []))) ∧ ((ob (decide ((nthS ts (2 : Nat)).size + (nthS ts (3 : Nat)).size ≤ (9223372036854775807 : Nat))) (bc (bif false then true else (if cmdOK n n_1 (nthS ts (2 : Nat)) (nthS ts (3 : Nat)) = true then (0 : Int) else (1 : Int)) != (0 : Int)) (K (SV.tup [SV.agg [SV.v (Value.int IntKind.i64 (0 : Int)), SV.v (Value.int IntKind.i64 (0 : Int)), SV.v (Value.string (ByteArray.mk (Array.mk []))), SV.v (Value.string (ByteArray.mk (Array.mk [])))], SV.v (Value.int IntKind.i64 (3 : Int))]) [Blk.cells true [SV.v (Value.int IntKind.i64 (0 : Int)), SV.v (Value.int IntKind.i64 (0 : Int)), SV.v (Value.string (ByteArray.mk (Array.mk []))), SV.v (Value.string (ByteArray.mk (Array.mk [])))], Blk.tab true ts.length [Col.s (nthS ts)], Blk.cells true [SV.v (Value.string (nthS ts (2 : Nat))), SV.v (Value.bool false)], Blk.cells true [SV.v (Value.int IntKind.i64 n), SV.v (Value.bool false)], Blk.cells true [SV.v (Value.int IntKind.i64 n_1), SV.v (Value.bool false)], Blk.cells true [SV.v (Value.string (nthS ts (3 : Nat))), SV.v (Value.bool false)], Blk.cells true [SV.v (Value.int IntKind.i64 n), SV.v (Value.int IntKind.i64 n_1), SV.v (Value.string (nthS ts (2 : Nat))), SV.v (Value.string (nthS ts (3 : Nat)))]] []) (K (SV.tup [SV.agg [SV.v (Value.int IntKind.i64 n), SV.v (Value.int IntKind.i64 n_1), SV.v (Value.string (nthS ts (2 : Nat))), SV.v (Value.string (nthS ts (3 : Nat)))], SV.v (Value.int IntKind.i64 (0 : Int))]) [Blk.cells true [SV.v (Value.int IntKind.i64 n), SV.v (Value.int IntKind.i64 n_1), SV.v (Value.string (nthS ts (2 : Nat))), SV.v (Value.string (nthS ts (3 : Nat)))], Blk.tab true ts.length [Col.s (nthS ts)], Blk.cells true [SV.v (Value.string (nthS ts (2 : Nat))), SV.v (Value.bool false)], Blk.cells true [SV.v (Value.int IntKind.i64 n), SV.v (Value.bool false)], Blk.cells true [SV.v (Value.int IntKind.i64 n_1), SV.v (Value.bool false)], Blk.cells true [SV.v (Value.string (nthS ts (3 : Nat))), SV.v (Value.bool false)], Blk.cells true [SV.v (Value.int IntKind.i64 n), SV.v (Value.int IntKind.i64 n_1), SV.v (Value.string (nthS ts (2 : Nat))), SV.v (Value.string (nthS ts (3 : Nat)))]] [])) ∧ ob (decide ((nthS ts (2 : Nat)).size + (nthS ts (3 : Nat)).size ≤ (9223372036854775807 : Nat))) (bc (bif false then true else (if cmdOK n n_1 (nthS ts (2 : Nat)) (nthS ts (3 : Nat)) = true then (0 : Int) else (1 : Int)) != (0 : Int)) (K (SV.tup [SV.agg [SV.v (Value.int IntKind.i64 (0 : Int)), SV.v (Value.int IntKind.i64 (0 : Int)), SV.v (Value.string (ByteArray.mk (Array.mk []))), SV.v (Value.string (ByteArray.mk (Array.mk [])))], SV.v (Value.int IntKind.i64 (3 : Int))]) [Blk.cells true [SV.v (Value.int IntKind.i64 (0 : Int)), SV.v (Value.int IntKind.i64 (0 : Int)), SV.v (Value.string (ByteArray.mk (Array.mk []))), SV.v (Value.string (ByteArray.mk (Array.mk [])))], Blk.tab true ts.length [Col.s (nthS ts)], Blk.cells true [SV.v (Value.string (nthS ts (2 : Nat))), SV.v (Value.bool false)], Blk.cells true [SV.v (Value.int IntKind.i64 n), SV.v (Value.bool false)], Blk.cells true [SV.v (Value.string (nthS ts (3 : Nat))), SV.v (Value.bool false)], Blk.cells true [SV.v (Value.int IntKind.i64 n_1), SV.v (Value.bool false)], Blk.cells true [SV.v (Value.int IntKind.i64 n), SV.v (Value.int IntKind.i64 n_1), SV.v (Value.string (nthS ts (2 : Nat))), SV.v (Value.string (nthS ts (3 : Nat)))]] []) (K (SV.tup [SV.agg [SV.v (Value.int IntKind.i64 n), SV.v (Value.int IntKind.i64 n_1), SV.v (Value.string (nthS ts (2 : Nat))), SV.v (Value.string (nthS ts (3 : Nat)))], SV.v (Value.int IntKind.i64 (0 : Int))]) [Blk.cells true [SV.v (Value.int IntKind.i64 n), SV.v (Value.int IntKind.i64 n_1), SV.v (Value.string (nthS ts (2 : Nat))), SV.v (Value.string (nthS ts (3 : Nat)))], Blk.tab true ts.length [Col.s (nthS ts)], Blk.cells true [SV.v (Value.string (nthS ts (2 : Nat))), SV.v (Value.bool false)], Blk.cells true [SV.v (Value.int IntKind.i64 n), SV.v (Value.bool false)], Blk.cells true [SV.v (Value.string (nthS ts (3 : Nat))), SV.v (Value.bool false)], Blk.cells true [SV.v (Value.int IntKind.i64 n_1), SV.v (Value.bool false)], Blk.cells true [SV.v (Value.int IntKind.i64 n), SV.v (Value.int IntKind.i64 n_1), SV.v (Value.string (nthS ts (2 : Nat))), SV.v (Value.string (nthS ts (3 : Nat)))]] []))) ∧ (ob (decide ((nthS ts (2 : Nat)).size + (nthS ts (3 : Nat)).size ≤ (9223372036854775807 : Nat))) (bc (bif false then true else (if cmdOK n n_1 (nthS ts (2 : Nat)) (nthS ts (3 : Nat)) = true then (0 : Int) else (1 : Int)) != (0 : Int)) (K (SV.tup [SV.agg [SV.v (Value.int IntKind.i64 (0 : Int)), SV.v (Value.int IntKind.i64 (0 : Int)), SV.v (Value.string (ByteArray.mk (Array.mk []))), SV.v (Value.string (ByteArray.mk (Array.mk [])))], SV.v (Value.int IntKind.i64 (3 : Int))]) [Blk.cells true [SV.v (Value.int IntKind.i64 (0 : Int)), SV.v (Value.int IntKind.i64 (0 : Int)), SV.v (Value.string (ByteArray.mk (Array.mk []))), SV.v (Value.string (ByteArray.mk (Array.mk [])))], Blk.tab true ts.length [Col.s (nthS ts)], Blk.cells true [SV.v (Value.string (nthS ts (2 : Nat))), SV.v (Value.bool false)], Blk.cells true [SV.v (Value.int IntKind.i64 n_1), SV.v (Value.bool false)], Blk.cells true [SV.v (Value.int IntKind.i64 n), SV.v (Value.bool false)], Blk.cells true [SV.v (Value.string (nthS ts (3 : Nat))), SV.v (Value.bool false)], Blk.cells true [SV.v (Value.int IntKind.i64 n), SV.v (Value.int IntKind.i64 n_1), SV.v (Value.string (nthS ts (2 : Nat))), SV.v (Value.string (nthS ts (3 : Nat)))]] []) (K (SV.tup [SV.agg [SV.v (Value.int IntKind.i64 n), SV.v (Value.int IntKind.i64 n_1), SV.v (Value.string (nthS ts (2 : Nat))), SV.v (Value.string (nthS ts (3 : Nat)))], SV.v (Value.int IntKind.i64 (0 : Int))]) [Blk.cells true [SV.v (Value.int IntKind.i64 n), SV.v (Value.int IntKind.i64 n_1), SV.v (Value.string (nthS ts (2 : Nat))), SV.v (Value.string (nthS ts (3 : Nat)))], Blk.tab true ts.length [Col.s (nthS ts)], Blk.cells true [SV.v (Value.string (nthS ts (2 : Nat))), SV.v (Value.bool false)], Blk.cells true [SV.v (Value.int IntKind.i64 n_1), SV.v (Value.bool false)], Blk.cells true [SV.v (Value.int IntKind.i64 n), SV.v (Value.bool false)], Blk.cells true [SV.v (Value.string (nthS ts (3 : Nat))), SV.v (Value.bool false)], Blk.cells true [SV.v (Value.int IntKind.i64 n), SV.v (Value.int IntKind.i64 n_1), SV.v (Value.string (nthS ts (2 : Nat))), SV.v (Value.string (nthS ts (3 : Nat)))]] [])) ∧ ob (decide ((nthS ts (2 : Nat)).size + (nthS ts (3 : Nat)).size ≤ (9223372036854775807 : Nat))) (bc (bif false then true else (if cmdOK n n_1 (nthS ts (2 : Nat)) (nthS ts (3 : Nat)) = true then (0 : Int) else (1 : Int)) != (0 : Int)) (K (SV.tup [SV.agg [SV.v (Value.int IntKind.i64 (0 : Int)), SV.v (Value.int IntKind.i64 (0 : Int)), SV.v (Value.string (ByteArray.mk (Array.mk []))), SV.v (Value.string (ByteArray.mk (Array.mk [])))], SV.v (Value.int IntKind.i64 (3 : Int))]) [Blk.cells true [SV.v (Value.int IntKind.i64 (0 : Int)), SV.v (Value.int IntKind.i64 (0 : Int)), SV.v (Value.string (ByteArray.mk (Array.mk []))), SV.v (Value.string (ByteArray.mk (Array.mk [])))], Blk.tab true ts.length [Col.s (nthS ts)], Blk.cells true [SV.v (Value.string (nthS ts (2 : Nat))), SV.v (Value.bool false)], Blk.cells true [SV.v (Value.int IntKind.i64 n_1), SV.v (Value.bool false)], Blk.cells true [SV.v (Value.string (nthS ts (3 : Nat))), SV.v (Value.bool false)], Blk.cells true [SV.v (Value.int IntKind.i64 n), SV.v (Value.bool false)], Blk.cells true [SV.v (Value.int IntKind.i64 n), SV.v (Value.int IntKind.i64 n_1), SV.v (Value.string (nthS ts (2 : Nat))), SV.v (Value.string (nthS ts (3 : Nat)))]] []) (K (SV.tup [SV.agg [SV.v (Value.int IntKind.i64 n), SV.v (Value.int IntKind.i64 n_1), SV.v (Value.string (nthS ts (2 : Nat))), SV.v (Value.string (nthS ts (3 : Nat)))], SV.v (Value.int IntKind.i64 (0 : Int))]) [Blk.cells true [SV.v (Value.int IntKind.i64 n), SV.v (Value.int IntKind.i64 n_1), SV.v (Value.string (nthS ts (2 : Nat))), SV.v (Value.string (nthS ts (3 : Nat)))], Blk.tab true ts.length [Col.s (nthS ts)], Blk.cells true [SV.v (Value.string (nthS ts (2 : Nat))), SV.v (Value.bool false)], Blk.cells true [SV.v (Value.int IntKind.i64 n_1), SV.v (Value.bool false)], Blk.cells true [SV.v (Value.string (nthS ts (3 : Nat))), SV.v (Value.bool false)], Blk.cells true [SV.v (Value.int IntKind.i64 n), SV.v (Value.bool false)], Blk.cells true [SV.v (Value.int IntKind.i64 n), SV.v (Value.int IntKind.i64 n_1), SV.v (Value.string (nthS ts (2 : Nat))), SV.v (Value.string (nthS ts (3 : Nat)))]] []))) ∧ ob (decide ((nthS ts (2 : Nat)).size + (nthS ts (3 : Nat)).size ≤ (9223372036854775807 : Nat))) (bc (bif false then true else (if cmdOK n n_1 (nthS ts (2 : Nat)) (nthS ts (3 : Nat)) = true then (0 : Int) else (1 : Int)) != (0 : Int)) (K (SV.tup [SV.agg [SV.v (Value.int IntKind.i64 (0 : Int)), SV.v (Value.int IntKind.i64 (0 : Int)), SV.v (Value.string (ByteArray.mk (Array.mk []))), SV.v (Value.string (ByteArray.mk (Array.mk [])))], SV.v (Value.int IntKind.i64 (3 : Int))]) [Blk.cells true [SV.v (Value.int IntKind.i64 (0 : Int)), SV.v (Value.int IntKind.i64 (0 : Int)), SV.v (Value.string (ByteArray.mk (Array.mk []))), SV.v (Value.string (ByteArray.mk (Array.mk [])))], Blk.tab true ts.length [Col.s (nthS ts)], Blk.cells true [SV.v (Value.string (nthS ts (2 : Nat))), SV.v (Value.bool false)], Blk.cells true [SV.v (Value.string (nthS ts (3 : Nat))), SV.v (Value.bool false)], Blk.cells true [SV.v (Value.int IntKind.i64 n), SV.v (Value.bool false)], Blk.cells true [SV.v (Value.int IntKind.i64 n_1), SV.v (Value.bool false)], Blk.cells true [SV.v (Value.int IntKind.i64 n), SV.v (Value.int IntKind.i64 n_1), SV.v (Value.string (nthS ts (2 : Nat))), SV.v (Value.string (nthS ts (3 : Nat)))]] []) (K (SV.tup [SV.agg [SV.v (Value.int IntKind.i64 n), SV.v (Value.int IntKind.i64 n_1), SV.v (Value.string (nthS ts (2 : Nat))), SV.v (Value.string (nthS ts (3 : Nat)))], SV.v (Value.int IntKind.i64 (0 : Int))]) [Blk.cells true [SV.v (Value.int IntKind.i64 n), SV.v (Value.int IntKind.i64 n_1), SV.v (Value.string (nthS ts (2 : Nat))), SV.v (Value.string (nthS ts (3 : Nat)))], Blk.tab true ts.length [Col.s (nthS ts)], Blk.cells true [SV.v (Value.string (nthS ts (2 : Nat))), SV.v (Value.bool false)], Blk.cells true [SV.v (Value.string (nthS ts (3 : Nat))), SV.v (Value.bool false)], Blk.cells true [SV.v (Value.int IntKind.i64 n), SV.v (Value.bool false)], Blk.cells true [SV.v (Value.int IntKind.i64 n_1), SV.v (Value.bool false)], Blk.cells true [SV.v (Value.int IntKind.i64 n), SV.v (Value.int IntKind.i64 n_1), SV.v (Value.string (nthS ts (2 : Nat))), SV.v (Value.string (nthS ts (3 : Nat)))]] [])) ∧ ob (decide ((nthS ts (2 : Nat)).size + (nthS ts (3 : Nat)).size ≤ (9223372036854775807 : Nat))) (bc (bif false then true else (if cmdOK n n_1 (nthS ts (2 : Nat)) (nthS ts (3 : Nat)) = true then (0 : Int) else (1 : Int)) != (0 : Int)) (K (SV.tup [SV.agg [SV.v (Value.int IntKind.i64 (0 : Int)), SV.v (Value.int IntKind.i64 (0 : Int)), SV.v (Value.string (ByteArray.mk (Array.mk []))), SV.v (Value.string (ByteArray.mk (Array.mk [])))], SV.v (Value.int IntKind.i64 (3 : Int))]) [Blk.cells true [SV.v (Value.int IntKind.i64 (0 : Int)), SV.v (Value.int IntKind.i64 (0 : Int)), SV.v (Value.string (ByteArray.mk (Array.mk []))), SV.v (Value.string (ByteArray.mk (Array.mk [])))], Blk.tab true ts.length [Col.s (nthS ts)], Blk.cells true [SV.v (Value.string (nthS ts (2 : Nat))), SV.v (Value.bool false)], Blk.cells true [SV.v (Value.string (nthS ts (3 : Nat))), SV.v (Value.bool false)], Blk.cells true [SV.v (Value.int IntKind.i64 n_1), SV.v (Value.bool false)], Blk.cells true [SV.v (Value.int IntKind.i64 n), SV.v (Value.bool false)], Blk.cells true [SV.v (Value.int IntKind.i64 n), SV.v (Value.int IntKind.i64 n_1), SV.v (Value.string (nthS ts (2 : Nat))), SV.v (Value.string (nthS ts (3 : Nat)))]] []) (K (SV.tup [SV.agg [SV.v (Value.int IntKind.i64 n), SV.v (Value.int IntKind.i64 n_1), SV.v (Value.string (nthS ts (2 : Nat))), SV.v (Value.string (nthS ts (3 : Nat)))], SV.v (Value.int IntKind.i64 (0 : Int))]) [Blk.cells true [SV.v (Value.int IntKind.i64 n), SV.v (Value.int IntKind.i64 n_1), SV.v (Value.string (nthS ts (2 : Nat))), SV.v (Value.string (nthS ts (3 : Nat)))], Blk.tab true ts.length [Col.s (nthS ts)], Blk.cells true [SV.v (Value.string (nthS ts (2 : Nat))), SV.v (Value.bool false)], Blk.cells true [SV.v (Value.string (nthS ts (3 : Nat))), SV.v (Value.bool false)], Blk.cells true [SV.v (Value.int IntKind.i64 n_1), SV.v (Value.bool false)], Blk.cells true [SV.v (Value.int IntKind.i64 n), SV.v (Value.bool false)], Blk.cells true [SV.v (Value.int IntKind.i64 n), SV.v (Value.int IntKind.i64 n_1), SV.v (Value.string (nthS ts (2 : Nat))), SV.v (Value.string (nthS ts (3 : Nat)))]] []))) ∧ (ob (decide ((nthS ts (2 : Nat)).size + (nthS ts (3 : Nat)).size ≤ (9223372036854775807 : Nat))) (bc (bif false then true else (if cmdOK n n_1 (nthS ts (2 : Nat)) (nthS ts (3 : Nat)) = true then (0 : Int) else (1 : Int)) != (0 : Int)) (K (SV.tup [SV.agg [SV.v (Value.int IntKind.i64 (0 : Int)), SV.v (Value.int IntKind.i64 (0 : Int)), SV.v (Value.string (ByteArray.mk (Array.mk []))), SV.v (Value.string (ByteArray.mk (Array.mk [])))], SV.v (Value.int IntKind.i64 (3 : Int))]) [Blk.cells true [SV.v (Value.int IntKind.i64 (0 : Int)), SV.v (Value.int IntKind.i64 (0 : Int)), SV.v (Value.string (ByteArray.mk (Array.mk []))), SV.v (Value.string (ByteArray.mk (Array.mk [])))], Blk.tab true ts.length [Col.s (nthS ts)], Blk.cells true [SV.v (Value.string (nthS ts (3 : Nat))), SV.v (Value.bool false)], Blk.cells true [SV.v (Value.int IntKind.i64 n), SV.v (Value.bool false)], Blk.cells true [SV.v (Value.int IntKind.i64 n_1), SV.v (Value.bool false)], Blk.cells true [SV.v (Value.string (nthS ts (2 : Nat))), SV.v (Value.bool false)], Blk.cells true [SV.v (Value.int IntKind.i64 n), SV.v (Value.int IntKind.i64 n_1), SV.v (Value.string (nthS ts (2 : Nat))), SV.v (Value.string (nthS ts (3 : Nat)))]] []) (K (SV.tup [SV.agg [SV.v (Value.int IntKind.i64 n), SV.v (Value.int IntKind.i64 n_1), SV.v (Value.string (nthS ts (2 : Nat))), SV.v (Value.string (nthS ts (3 : Nat)))], SV.v (Value.int IntKind.i64 (0 : Int))]) [Blk.cells true [SV.v (Value.int IntKind.i64 n), SV.v (Value.int IntKind.i64 n_1), SV.v (Value.string (nthS ts (2 : Nat))), SV.v (Value.string (nthS ts (3 : Nat)))], Blk.tab true ts.length [Col.s (nthS ts)], Blk.cells true [SV.v (Value.string (nthS ts (3 : Nat))), SV.v (Value.bool false)], Blk.cells true [SV.v (Value.int IntKind.i64 n), SV.v (Value.bool false)], Blk.cells true [SV.v (Value.int IntKind.i64 n_1), SV.v (Value.bool false)], Blk.cells true [SV.v (Value.string (nthS ts (2 : Nat))), SV.v (Value.bool false)], Blk.cells true [SV.v (Value.int IntKind.i64 n), SV.v (Value.int IntKind.i64 n_1), SV.v (Value.string (nthS ts (2 : Nat))), SV.v (Value.string (nthS ts (3 : Nat)))]] [])) ∧ ob (decide ((nthS ts (2 : Nat)).size + (nthS ts (3 : Nat)).size ≤ (9223372036854775807 : Nat))) (bc (bif false then true else (if cmdOK n n_1 (nthS ts (2 : Nat)) (nthS ts (3 : Nat)) = true then (0 : Int) else (1 : Int)) != (0 : Int)) (K (SV.tup [SV.agg [SV.v (Value.int IntKind.i64 (0 : Int)), SV.v (Value.int IntKind.i64 (0 : Int)), SV.v (Value.string (ByteArray.mk (Array.mk []))), SV.v (Value.string (ByteArray.mk (Array.mk [])))], SV.v (Value.int IntKind.i64 (3 : Int))]) [Blk.cells true [SV.v (Value.int IntKind.i64 (0 : Int)), SV.v (Value.int IntKind.i64 (0 : Int)), SV.v (Value.string (ByteArray.mk (Array.mk []))), SV.v (Value.string (ByteArray.mk (Array.mk [])))], Blk.tab true ts.length [Col.s (nthS ts)], Blk.cells true [SV.v (Value.string (nthS ts (3 : Nat))), SV.v (Value.bool false)], Blk.cells true [SV.v (Value.int IntKind.i64 n), SV.v (Value.bool false)], Blk.cells true [SV.v (Value.string (nthS ts (2 : Nat))), SV.v (Value.bool false)], Blk.cells true [SV.v (Value.int IntKind.i64 n_1), SV.v (Value.bool false)], Blk.cells true [SV.v (Value.int IntKind.i64 n), SV.v (Value.int IntKind.i64 n_1), SV.v (Value.string (nthS ts (2 : Nat))), SV.v (Value.string (nthS ts (3 : Nat)))]] []) (K (SV.tup [SV.agg [SV.v (Value.int IntKind.i64 n), SV.v (Value.int IntKind.i64 n_1), SV.v (Value.string (nthS ts (2 : Nat))), SV.v (Value.string (nthS ts (3 : Nat)))], SV.v (Value.int IntKind.i64 (0 : Int))]) [Blk.cells true [SV.v (Value.int IntKind.i64 n), SV.v (Value.int IntKind.i64 n_1), SV.v (Value.string (nthS ts (2 : Nat))), SV.v (Value.string (nthS ts (3 : Nat)))], Blk.tab true ts.length [Col.s (nthS ts)], Blk.cells true [SV.v (Value.string (nthS ts (3 : Nat))), SV.v (Value.bool false)], Blk.cells true [SV.v (Value.int IntKind.i64 n), SV.v (Value.bool false)], Blk.cells true [SV.v (Value.string (nthS ts (2 : Nat))), SV.v (Value.bool false)], Blk.cells true [SV.v (Value.int IntKind.i64 n_1), SV.v (Value.bool false)], Blk.cells true [SV.v (Value.int IntKind.i64 n), SV.v (Value.int IntKind.i64 n_1), SV.v (Value.string (nthS ts (2 : Nat))), SV.v (Value.string (nthS ts (3 : Nat)))]] []))) ∧ (ob (decide ((nthS ts (2 : Nat)).size + (nthS ts (3 : Nat)).size ≤ (9223372036854775807 : Nat))) (bc (bif false then true else (if cmdOK n n_1 (nthS ts (2 : Nat)) (nthS ts (3 : Nat)) = true then (0 : Int) else (1 : Int)) != (0 : Int)) (K (SV.tup [SV.agg [SV.v (Value.int IntKind.i64 (0 : Int)), SV.v (Value.int IntKind.i64 (0 : Int)), SV.v (Value.string (ByteArray.mk (Array.mk []))), SV.v (Value.string (ByteArray.mk (Array.mk [])))], SV.v (Value.int IntKind.i64 (3 : Int))]) [Blk.cells true [SV.v (Value.int IntKind.i64 (0 : Int)), SV.v (Value.int IntKind.i64 (0 : Int)), SV.v (Value.string (ByteArray.mk (Array.mk []))), SV.v (Value.string (ByteArray.mk (Array.mk [])))], Blk.tab true ts.length [Col.s (nthS ts)], Blk.cells true [SV.v (Value.string (nthS ts (3 : Nat))), SV.v (Value.bool false)], Blk.cells true [SV.v (Value.int IntKind.i64 n_1), SV.v (Value.bool false)], Blk.cells true [SV.v (Value.int IntKind.i64 n), SV.v (Value.bool false)], Blk.cells true [SV.v (Value.string (nthS ts (2 : Nat))), SV.v (Value.bool false)], Blk.cells true [SV.v (Value.int IntKind.i64 n), SV.v (Value.int IntKind.i64 n_1), SV.v (Value.string (nthS ts (2 : Nat))), SV.v (Value.string (nthS ts (3 : Nat)))]] []) (K (SV.tup [SV.agg [SV.v (Value.int IntKind.i64 n), SV.v (Value.int IntKind.i64 n_1), SV.v (Value.string (nthS ts (2 : Nat))), SV.v (Value.string (nthS ts (3 : Nat)))], SV.v (Value.int IntKind.i64 (0 : Int))]) [Blk.cells true [SV.v (Value.int IntKind.i64 n), SV.v (Value.int IntKind.i64 n_1), SV.v (Value.string (nthS ts (2 : Nat))), SV.v (Value.string (nthS ts (3 : Nat)))], Blk.tab true ts.length [Col.s (nthS ts)], Blk.cells true [SV.v (Value.string (nthS ts (3 : Nat))), SV.v (Value.bool false)], Blk.cells true [SV.v (Value.int IntKind.i64 n_1), SV.v (Value.bool false)], Blk.cells true [SV.v (Value.int IntKind.i64 n), SV.v (Value.bool false)], Blk.cells true [SV.v (Value.string (nthS ts (2 : Nat))), SV.v (Value.bool false)], Blk.cells true [SV.v (Value.int IntKind.i64 n), SV.v (Value.int IntKind.i64 n_1), SV.v (Value.string (nthS ts (2 : Nat))), SV.v (Value.string (nthS ts (3 : Nat)))]] [])) ∧ ob (decide ((nthS ts (2 : Nat)).size + (nthS ts (3 : Nat)).size ≤ (9223372036854775807 : Nat))) (bc (bif false then true else (if cmdOK n n_1 (nthS ts (2 : Nat)) (nthS ts (3 : Nat)) = true then (0 : Int) else (1 : Int)) != (0 : Int)) (K (SV.tup [SV.agg [SV.v (Value.int IntKind.i64 (0 : Int)), SV.v (Value.int IntKind.i64 (0 : Int)), SV.v (Value.string (ByteArray.mk (Array.mk []))), SV.v (Value.string (ByteArray.mk (Array.mk [])))], SV.v (Value.int IntKind.i64 (3 : Int))]) [Blk.cells true [SV.v (Value.int IntKind.i64 (0 : Int)), SV.v (Value.int IntKind.i64 (0 : Int)), SV.v (Value.string (ByteArray.mk (Array.mk []))), SV.v (Value.string (ByteArray.mk (Array.mk [])))], Blk.tab true ts.length [Col.s (nthS ts)], Blk.cells true [SV.v (Value.string (nthS ts (3 : Nat))), SV.v (Value.bool false)], Blk.cells true [SV.v (Value.int IntKind.i64 n_1), SV.v (Value.bool false)], Blk.cells true [SV.v (Value.string (nthS ts (2 : Nat))), SV.v (Value.bool false)], Blk.cells true [SV.v (Value.int IntKind.i64 n), SV.v (Value.bool false)], Blk.cells true [SV.v (Value.int IntKind.i64 n), SV.v (Value.int IntKind.i64 n_1), SV.v (Value.string (nthS ts (2 : Nat))), SV.v (Value.string (nthS ts (3 : Nat)))]] []) (K (SV.tup [SV.agg [SV.v (Value.int IntKind.i64 n), SV.v (Value.int IntKind.i64 n_1), SV.v (Value.string (nthS ts (2 : Nat))), SV.v (Value.string (nthS ts (3 : Nat)))], SV.v (Value.int IntKind.i64 (0 : Int))]) [Blk.cells true [SV.v (Value.int IntKind.i64 n), SV.v (Value.int IntKind.i64 n_1), SV.v (Value.string (nthS ts (2 : Nat))), SV.v (Value.string (nthS ts (3 : Nat)))], Blk.tab true ts.length [Col.s (nthS ts)], Blk.cells true [SV.v (Value.string (nthS ts (3 : Nat))), SV.v (Value.bool false)], Blk.cells true [SV.v (Value.int IntKind.i64 n_1), SV.v (Value.bool false)], Blk.cells true [SV.v (Value.string (nthS ts (2 : Nat))), SV.v (Value.bool false)], Blk.cells true [SV.v (Value.int IntKind.i64 n), SV.v (Value.bool false)], Blk.cells true [SV.v (Value.int IntKind.i64 n), SV.v (Value.int IntKind.i64 n_1), SV.v (Value.string (nthS ts (2 : Nat))), SV.v (Value.string (nthS ts (3 : Nat)))]] []))) ∧ ob (decide ((nthS ts (2 : Nat)).size + (nthS ts (3 : Nat)).size ≤ (9223372036854775807 : Nat))) (bc (bif false then true else (if cmdOK n n_1 (nthS ts (2 : Nat)) (nthS ts (3 : Nat)) = true then (0 : Int) else (1 : Int)) != (0 : Int)) (K (SV.tup [SV.agg [SV.v (Value.int IntKind.i64 (0 : Int)), SV.v (Value.int IntKind.i64 (0 : Int)), SV.v (Value.string (ByteArray.mk (Array.mk []))), SV.v (Value.string (ByteArray.mk (Array.mk [])))], SV.v (Value.int IntKind.i64 (3 : Int))]) [Blk.cells true [SV.v (Value.int IntKind.i64 (0 : Int)), SV.v (Value.int IntKind.i64 (0 : Int)), SV.v (Value.string (ByteArray.mk (Array.mk []))), SV.v (Value.string (ByteArray.mk (Array.mk [])))], Blk.tab true ts.length [Col.s (nthS ts)], Blk.cells true [SV.v (Value.string (nthS ts (3 : Nat))), SV.v (Value.bool false)], Blk.cells true [SV.v (Value.string (nthS ts (2 : Nat))), SV.v (Value.bool false)], Blk.cells true [SV.v (Value.int IntKind.i64 n), SV.v (Value.bool false)], Blk.cells true [SV.v (Value.int IntKind.i64 n_1), SV.v (Value.bool false)], Blk.cells true [SV.v (Value.int IntKind.i64 n), SV.v (Value.int IntKind.i64 n_1), SV.v (Value.string (nthS ts (2 : Nat))), SV.v (Value.string (nthS ts (3 : Nat)))]] []) (K (SV.tup [SV.agg [SV.v (Value.int IntKind.i64 n), SV.v (Value.int IntKind.i64 n_1), SV.v (Value.string (nthS ts (2 : Nat))), SV.v (Value.string (nthS ts (3 : Nat)))], SV.v (Value.int IntKind.i64 (0 : Int))]) [Blk.cells true [SV.v (Value.int IntKind.i64 n), SV.v (Value.int IntKind.i64 n_1), SV.v (Value.string (nthS ts (2 : Nat))), SV.v (Value.string (nthS ts (3 : Nat)))], Blk.tab true ts.length [Col.s (nthS ts)], Blk.cells true [SV.v (Value.string (nthS ts (3 : Nat))), SV.v (Value.bool false)], Blk.cells true [SV.v (Value.string (nthS ts (2 : Nat))), SV.v (Value.bool false)], Blk.cells true [SV.v (Value.int IntKind.i64 n), SV.v (Value.bool false)], Blk.cells true [SV.v (Value.int IntKind.i64 n_1), SV.v (Value.bool false)], Blk.cells true [SV.v (Value.int IntKind.i64 n), SV.v (Value.int IntKind.i64 n_1), SV.v (Value.string (nthS ts (2 : Nat))), SV.v (Value.string (nthS ts (3 : Nat)))]] [])) ∧ ob (decide ((nthS ts (2 : Nat)).size + (nthS ts (3 : Nat)).size ≤ (9223372036854775807 : Nat))) (bc (bif false then true else (if cmdOK n n_1 (nthS ts (2 : Nat)) (nthS ts (3 : Nat)) = true then (0 : Int) else (1 : Int)) != (0 : Int)) (K (SV.tup [SV.agg [SV.v (Value.int IntKind.i64 (0 : Int)), SV.v (Value.int IntKind.i64 (0 : Int)), SV.v (Value.string (ByteArray.mk (Array.mk []))), SV.v (Value.string (ByteArray.mk (Array.mk [])))], SV.v (Value.int IntKind.i64 (3 : Int))]) [Blk.cells true [SV.v (Value.int IntKind.i64 (0 : Int)), SV.v (Value.int IntKind.i64 (0 : Int)), SV.v (Value.string (ByteArray.mk (Array.mk []))), SV.v (Value.string (ByteArray.mk (Array.mk [])))], Blk.tab true ts.length [Col.s (nthS ts)], Blk.cells true [SV.v (Value.string (nthS ts (3 : Nat))), SV.v (Value.bool false)], Blk.cells true [SV.v (Value.string (nthS ts (2 : Nat))), SV.v (Value.bool false)], Blk.cells true [SV.v (Value.int IntKind.i64 n_1), SV.v (Value.bool false)], Blk.cells true [SV.v (Value.int IntKind.i64 n), SV.v (Value.bool false)], Blk.cells true [SV.v (Value.int IntKind.i64 n), SV.v (Value.int IntKind.i64 n_1), SV.v (Value.string (nthS ts (2 : Nat))), SV.v (Value.string (nthS ts (3 : Nat)))]] []) (K (SV.tup [SV.agg [SV.v (Value.int IntKind.i64 n), SV.v (Value.int IntKind.i64 n_1), SV.v (Value.string (nthS ts (2 : Nat))), SV.v (Value.string (nthS ts (3 : Nat)))], SV.v (Value.int IntKind.i64 (0 : Int))]) [Blk.cells true [SV.v (Value.int IntKind.i64 n), SV.v (Value.int IntKind.i64 n_1), SV.v (Value.string (nthS ts (2 : Nat))), SV.v (Value.string (nthS ts (3 : Nat)))], Blk.tab true ts.length [Col.s (nthS ts)], Blk.cells true [SV.v (Value.string (nthS ts (3 : Nat))), SV.v (Value.bool false)], Blk.cells true [SV.v (Value.string (nthS ts (2 : Nat))), SV.v (Value.bool false)], Blk.cells true [SV.v (Value.int IntKind.i64 n_1), SV.v (Value.bool false)], Blk.cells true [SV.v (Value.int IntKind.i64 n), SV.v (Value.bool false)], Blk.cells true [SV.v (Value.int IntKind.i64 n), SV.v (Value.int IntKind.i64 n_1), SV.v (Value.string (nthS ts (2 : Nat))), SV.v (Value.string (nthS ts (3 : Nat)))]] [])))))))))))))))))) := by kernel_rfl
theorem wtxtS_ok : SpecOK Tryz.prog 170 wtxtS := by
  refine q_ro mixed .nil Tryz.func170 rfl rfl fun args blks K h => ?_
  split at h
  · exact ⟨_, rfl, h, rfl, noI, by rw [wtxt_vf]⟩
  · exact h.elim
theorem oneS_ok : SpecOK Tryz.prog 169 oneS := by
  refine q_ro mixed .nil Tryz.func169 rfl rfl fun args blks K h => ?_
  split at h
  case h_2 => exact h.elim
  obtain ⟨n, rfl, h⟩ := h
  rw [ob_iff, Bool.and_eq_true, decide_eq_true_eq, decide_eq_true_eq] at h
  obtain ⟨⟨h0, h1⟩, hK⟩ := h
  refine ⟨_, rfl, hK, rfl, noI, ?_⟩
  have hb : bt (byteB n) 0 = n := by
    refine (bt_bytesL _ 0).trans ?_
    rw [byteB_def, wrap_u8, bytesL_bstr (by intro x hx; simp only [List.mem_singleton] at hx; omega)]
    show n % 256 = n
    omega
  rw [one_vf, byteB_size, hb, wrap_i64 _ (by omega) (by omega)]
  exact ob_mk (b := true) rfl rfl
theorem wread_ok : SpecOK Tryz.prog 168 (inl Tryz.prog [(71, readS)] noI Tryz.f168) := inl_ok mixed (.cons readS_ok .nil) Tryz.func168 rfl rfl
/-- The command of its bytes. -/
def rcmdS : Spec := .q fun args blks K => match args, blks with
  | [.v (.string x)], [] => ∃ (k e : Int) (n b : ByteArray), x = textsB [byteB k, byteB e, n, b] ∧ cmdOK k e n b = true ∧ K (.tup [.agg [.v (.int .i64 k), .v (.int .i64 e), .v (.string n), .v (.string b)], .v (.int .i64 0)])
  | _, _ => False
theorem rcmdS_ok : SpecOK Tryz.prog 139 rcmdS := by
  refine q_ro mixed (.cons wread_ok (.cons oneS_ok (.cons wtxtS_ok (.cons checkS_ok .nil)))) Tryz.func139 rfl rfl fun args blks K h => ?_
  split at h
  case h_2 => exact h.elim
  obtain ⟨k, e, n, b, rfl, hok, hK⟩ := h
  have hs := cmdOK_size hok
  refine ⟨_, rfl, hK, rfl, noI, ?_⟩
  rw [rcmd_vf]
  refine ⟨[byteB k, byteB e, n, b], rfl, by simp only [lenT, byteB_size]; omega, ?_⟩
  have n0 : nthS [byteB k, byteB e, n, b] 0 = byteB k := nthS_zero _ _
  have n1 : nthS [byteB k, byteB e, n, b] 1 = byteB e := (nthS_succ _ _ 0).trans (nthS_zero _ _)
  have n2 : nthS [byteB k, byteB e, n, b] 2 = n := (nthS_succ _ _ 1).trans ((nthS_succ _ _ 0).trans (nthS_zero _ _))
  have n3 : nthS [byteB k, byteB e, n, b] 3 = b := (nthS_succ _ _ 2).trans ((nthS_succ _ _ 1).trans ((nthS_succ _ _ 0).trans (nthS_zero _ _)))
  simp only [n0, n1, n2, n3, List.length_cons, List.length_nil, ob_t]
  refine ob_mk rfl (ob_mk rfl (ob_mk rfl (ob_mk rfl (ob_mk rfl ⟨k, rfl, ob_mk ?_ (ob_mk rfl ⟨e, rfl, ob_mk ?_ (ob_mk rfl (ob_mk rfl ?_))⟩)⟩))))
  · rw [decide_eq_true (show 0 ≤ k by omega), decide_eq_true (show k < 256 by omega)]; rfl
  · rw [decide_eq_true (show 0 ≤ e by omega), decide_eq_true (show e < 256 by omega)]; rfl
  · simp only [hok, cond_false, if_true, bne_self_eq_false, bc_f]
    have hz : decide (n.size + b.size ≤ 9223372036854775807) = true := decide_eq_true (by omega)
    simp only [hz, ob_t]
    trivial

end Go.Proofs.YtmnenigmkfnciaaGreatDoor.Sx
/- Requests: their cells, rows of them; block.First. No condition. -/
namespace Go.Proofs.YtmnenigmkfnciaaGreatDoor.Sx
open Go Go.Proofs
set_option maxRecDepth 100000
set_option linter.unusedSimpArgs false
set_option linter.unusedVariables false

/-- A request's cells. -/
def rq (c s k e : Int) (n b : ByteArray) : List SV := [.v (.int .i64 c), .v (.int .i64 s), .v (.int .i64 k), .v (.int .i64 e), .v (.string n), .v (.string b)]
theorem reqOK_parts {c s k e : Int} {n b : ByteArray} (h : reqOK c s k e n b = true) : (0 ≤ c ∧ c ≤ 15) ∧ (0 ≤ s ∧ s < 2147483648) ∧ cmdOK k e n b = true := by
  rw [reqOK_def] at h
  simp only [Bool.and_eq_true, decide_eq_true_eq] at h
  exact h
structure RT where
  n : Nat
  c : Nat → Int
  s : Nat → Int
  k : Nat → Int
  e : Nat → Int
  nm : Nat → ByteArray
  b : Nat → ByteArray
def RT.cols (r : RT) : List Col := [.i .i64 r.c, .i .i64 r.s, .i .i64 r.k, .i .i64 r.e, .s r.nm, .s r.b]
def RT.push (r : RT) (c s k e : Int) (n b : ByteArray) : RT := ⟨r.n + 1, upF r.c r.n c, upF r.s r.n s, upF r.k r.n k, upF r.e r.n e, upF r.nm r.n n, upF r.b r.n b⟩
theorem half_nat (a b : Nat) (h : a + b < 1000000000) : IntKind.i64.wrap (ishr IntKind.u64 (IntKind.u64.wrap (IntKind.i64.wrap ((a : Int) + (b : Int)))) (1 : Int)) = (((a + b) / 2 : Nat) : Int) := by
  rw [wrap_i64 ((a : Int) + (b : Int)) (by omega) (by omega), wrap_u64' ((a : Int) + (b : Int)) (by omega) (by omega)]
  unfold ishr
  have e1 : min (1 : Int).toNat IntKind.u64.bits = 1 := by decide
  rw [e1, Int.fdiv_eq_ediv_of_nonneg _ (by decide)]
  have e2 : (2 : Int) ^ 1 = 2 := by decide
  rw [e2, wrap_i64 _ (by omega) (by omega)]
  omega
theorem first_vf  (K : SV → List Blk → List Nat → Prop) : vf Tryz.prog [] (noI) Tryz.f6 [] [] K =
  (ob true (ob true (K (SV.v (Value.string (bstr [(0 : Int), (0 : Int), (0 : Int), (0 : Int), (0 : Int), (0 : Int), (0 : Int), (0 : Int), (0 : Int), (0 : Int), (0 : Int), (0 : Int), (0 : Int), (0 : Int), (0 : Int), (0 : Int), (0 : Int), (0 : Int), (0 : Int), (0 : Int), (0 : Int), (0 : Int), (0 : Int), (0 : Int), (0 : Int), (0 : Int), (0 : Int), (0 : Int), (0 : Int), (0 : Int), (0 : Int), (0 : Int)]))) [Blk.ints true IntKind.u8 [(0 : Int), (0 : Int), (0 : Int), (0 : Int), (0 : Int), (0 : Int), (0 : Int), (0 : Int), (0 : Int), (0 : Int), (0 : Int), (0 : Int), (0 : Int), (0 : Int), (0 : Int), (0 : Int), (0 : Int), (0 : Int), (0 : Int), (0 : Int), (0 : Int), (0 : Int), (0 : Int), (0 : Int), (0 : Int), (0 : Int), (0 : Int), (0 : Int), (0 : Int), (0 : Int), (0 : Int), (0 : Int)]] []))) := by kernel_rfl
def firstB : ByteArray := bstr (List.replicate 32 0)
def firstS : Spec := .q fun args blks K => match args, blks with
  | [], [] => K (.v (.string firstB))
  | _, _ => False
theorem firstS_ok : SpecOK Tryz.prog 6 firstS := by
  refine q_ro mixed .nil Tryz.func6 rfl rfl fun args blks K h => ?_
  split at h
  · exact ⟨_, rfl, h, rfl, noI, by rw [first_vf]; exact rfl⟩
  · exact h.elim

end Go.Proofs.YtmnenigmkfnciaaGreatDoor.Sx
