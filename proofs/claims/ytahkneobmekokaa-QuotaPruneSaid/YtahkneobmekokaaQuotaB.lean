/- The quota: what is charged, refunded, told. No condition. -/
import Derived.Test.YtahkneobmekokaaSx12
import Derived.Test.YtahkneobmekokaaProg
import Derived.Test.YtahkneobmekokaaBase
import Derived.Test.YtahkneobmekokaaQuota0
import Derived.Test.YtahkneobmekokaaQuotaA
namespace Go.Proofs.Ytahkneobmekokaa.Sx
open Go Go.Proofs
set_option maxRecDepth 100000
set_option linter.unusedSimpArgs false
set_option linter.unusedVariables false

def setQ (q : QS) (c : Nat) (l : List Int) (n : Nat) (b : Int) : QS := { q with L := fun i => match Nat.beq i c with | true => l | false => q.L i, n := fun i => match Nat.beq i c with | true => n | false => q.n i, B := fun i => match Nat.beq i c with | true => b | false => q.B i }
def mvQ : List Nat := [1, 2, 3, 4, 5, 6, 7, 8, 9, 10, 11, 12, 13, 14, 15, 16]
/-- What holds of all accounts. -/
def okQ (q : QS) : Prop := q.fi ≤ 32 ∧ ∀ i, (q.L i).length = q.n i * 2 ∧ q.n i ≤ 32
/-! New -/
def newQ (a b : Int) : QS := ⟨mn (mx a 0) 1048576, mn (mx b 0) 32, -1, fun _ => [], fun _ => 0, fun _ => 0⟩
def newS : Spec := .m fun args blks K => match args, blks with
  | [.v (.int .i64 a), .v (.int .i64 b)], [] => K (.ptr 0 0) (tblQ true (newQ a b)) []
  | _, _ => False
theorem new_vf (a b : Int) (K : SV → List Blk → List Nat → Prop) : vf Try.prog [] noI Try.f9 [.v (.int .i64 a), .v (.int .i64 b)] [] K = K (.ptr 0 0) [.cells true (.v (.int .i64 (mn (mx a 0) 1048576)) :: .v (.int .i64 (mn (mx b 0) 32)) :: .v (.int .i64 (-1)) :: (List.replicate 16 [.v (.slice none 0 0), .v (.int .i64 0)]).flatten)] [] := by kernel_rfl
theorem new_ok : SpecOK Try.prog 9 newS := by
  refine m_le mixed SpecsOK.nil Try.func9 rfl rfl fun args blks K h => ?_
  split at h
  · rename_i a b
    refine ⟨noI, ?_⟩
    rw [new_vf]
    refine ⟨.ptr 0 0, tblQ true (newQ a b), [], ?_, ?_, rfl, h⟩
    · simp [SV.le]
    · simp [tblQ, accC, accB, r16, newQ, tblLe, blkLe, preLe, SV.le, veq, emptyB, isNilS, ob, List.replicate]
  · exact h.elim
/-! Charge -/
def chgQ (q : QS) (c : Nat) (e b : Int) : QS := setQ q c (q.L c ++ [e, b]) (q.n c + 1) (IntKind.i64.wrap (q.B c + b))
def chgF (c : Nat) (q : QS) (e b : Int) (K : SV → List Blk → List Nat → Prop) : Prop :=
  bc (bif false then true else !mayF e b) (K (.v (.int .i64 1)) (tblQ true q) [])
    (bc (decide (b > IntKind.i64.wrap (q.sp - q.B c))) (K (.v (.int .i64 7)) (tblQ true q) [])
      (bc (bif false then true else decide ((q.n c : Int) ≥ q.fi)) (K (.v (.int .i64 7)) (tblQ true q) [])
        (bc (decide (e ≤ q.pr)) (K (.v (.int .i64 11)) (tblQ true q) [])
          (ob (Nat.beq (q.L c).length (q.n c * 2)) (ob (decide ((q.n c + 1) * 16 ≤ 140737488355328)) (K (.v (.int .i64 0)) (tblQ true (chgQ q c e b)) [c + 1]))))))
theorem chg_vf (q : QS) (e b : Int) (K : SV → List Blk → List Nat → Prop) : ∀ c : Nat, c < 16 → (vf Try.prog [(24, iqOf), (26, mayS)] noI Try.f18 [.ptr 0 0, .v (.int .i64 (c : Int)), .v (.int .i64 e), .v (.int .i64 b)] (tblQ true q) fun s t m => K s (t.take 17) m) = chgF c q e b K
  | 0, _ => by kernel_rfl
  | 1, _ => by kernel_rfl
  | 2, _ => by kernel_rfl
  | 3, _ => by kernel_rfl
  | 4, _ => by kernel_rfl
  | 5, _ => by kernel_rfl
  | 6, _ => by kernel_rfl
  | 7, _ => by kernel_rfl
  | 8, _ => by kernel_rfl
  | 9, _ => by kernel_rfl
  | 10, _ => by kernel_rfl
  | 11, _ => by kernel_rfl
  | 12, _ => by kernel_rfl
  | 13, _ => by kernel_rfl
  | 14, _ => by kernel_rfl
  | 15, _ => by kernel_rfl
  | n + 16, h => absurd h (by omega)
theorem chgO_vf (q : QS) (c e b : Int) (K : SV → List Blk → List Nat → Prop) : vf Try.prog [(24, ofOut), (26, mayS)] noI Try.f18 [.ptr 0 0, .v (.int .i64 c), .v (.int .i64 e), .v (.int .i64 b)] (tblQ true q) K =
    ((normB (tblQ true q) = tblQ true q ∧ tblLt 17 (tblQ true q) = true) ∧ ob (outC c) (K (.v (.int .i64 1)) (tblQ true q) [])) := by kernel_rfl
/-- The answer of a charge. -/
def chgE (q : QS) (c e b : Int) : Int := if outC c = true ∨ mayF e b = false then 1 else if b > IntKind.i64.wrap (q.sp - q.B c.toNat) ∨ (q.n c.toNat : Int) ≥ q.fi then 7 else if e ≤ q.pr then 11 else 0
def chgR (q : QS) (c e b : Int) : QS := if chgE q c e b = 0 then chgQ q c.toNat e b else q
def chgS : Spec := .m fun args blks K => match args with
  | [.ptr 0 0, .v (.int .i64 c), .v (.int .i64 e), .v (.int .i64 b)] => ∃ q, blks = tblQ true q ∧ okQ q ∧ K (.v (.int .i64 (chgE q c e b))) (tblQ true (chgR q c e b)) mvQ
  | _ => False
/-! Used -/
theorem used_vf (q : QS) (K : SV → Prop) : ∀ c : Nat, c < 16 → (vf Try.prog [(24, iqOf)] noI Try.f12 [.ptr 0 0, .v (.int .i64 (c : Int))] (tblQ false q) fun s _ _ => K s) = K (.tup [.v (.int .i64 (q.B c)), .v (.int .i64 (q.n c))])
  | 0, _ => by kernel_rfl
  | 1, _ => by kernel_rfl
  | 2, _ => by kernel_rfl
  | 3, _ => by kernel_rfl
  | 4, _ => by kernel_rfl
  | 5, _ => by kernel_rfl
  | 6, _ => by kernel_rfl
  | 7, _ => by kernel_rfl
  | 8, _ => by kernel_rfl
  | 9, _ => by kernel_rfl
  | 10, _ => by kernel_rfl
  | 11, _ => by kernel_rfl
  | 12, _ => by kernel_rfl
  | 13, _ => by kernel_rfl
  | 14, _ => by kernel_rfl
  | 15, _ => by kernel_rfl
  | n + 16, h => absurd h (by omega)
theorem usedO_vf (q : QS) (c : Int) (K : SV → Prop) : (vf Try.prog [(24, ofOut)] noI Try.f12 [.ptr 0 0, .v (.int .i64 c)] (tblQ false q) fun s _ _ => K s) =
    ((normB (tblQ false q) = tblQ false q ∧ tblLt 17 (tblQ false q) = true) ∧ ob (outC c) (K (.tup [.v (.int .i64 0), .v (.int .i64 0)]))) := by kernel_rfl
def useB (q : QS) (c : Int) : Int := if outC c = true then 0 else q.B c.toNat
def useN (q : QS) (c : Int) : Int := if outC c = true then 0 else (q.n c.toNat : Int)
def usedS : Spec := .q fun args blks K => match args with
  | [.ptr 0 0, .v (.int .i64 c)] => ∃ q, blks = tblQ false q ∧ K (.tup [.v (.int .i64 (useB q c)), .v (.int .i64 (useN q c))])
  | _ => False
/-! Total -/
def totW (q : QS) : Int := r16.foldl (fun s i => IntKind.i64.wrap (s + q.B i)) 0
theorem tot_vf (q : QS) (K : SV → Prop) : (vf Try.prog [(25, iqSum), (32, iqSum1), (33, iqSum2)] noI Try.f14 [.ptr 0 0] (tblQ false q) fun s _ _ => K s) = K (.v (.int .i64 (totW q))) := by kernel_rfl
def totS : Spec := .q fun args blks K => match args with
  | [.ptr 0 0] => ∃ q, blks = tblQ false q ∧ K (.v (.int .i64 (totW q)))
  | _ => False
/-! Most -/
def rowD (c : Nat) (b : Blk) : List Blk := List.replicate (c + 1) .dead ++ b :: List.replicate (15 - c) .dead
def mostG (l : List Int) : Nat → Int
  | 0 => 0
  | k + 1 => mx (mostG l k) (l.getD (k * 2 + 1) 0)
def mostI (q : QS) (c : Nat) : Nat → St → LK := fun id st => match id with
  | 0 => .inv (q.n c) fun k => { st with env := [(5, .v (.int .i64 (mostG (q.L c) k))), (17, .slc (c + 1) 0 (q.n c) (q.n c) 2), (18, .v (.int .i64 (q.n c : Int))), (19, .v (.int .i64 (k : Int)))], tbl := rowD c (.ints false .i64 (q.L c)) }
  | _ => .unroll 20
def mostF (q : QS) (c : Nat) (K : SV → Prop) : Prop := ob true (ob ((0 : Int) == mostG (q.L c) (0 : Nat)) (ob true (ob true (ob ((q.n c).beq (q.n c)) (ob ((q.n c).ble (q.n c)) (ob ((q.n c).ble (q.n c)) (ob true (ob ((↑(q.n c) : Int) == (↑(q.n c) : Int)) (ob true (ob true (ob (q.L c == q.L c) (∀ (k : Nat), k ≤ q.n c → bc (decide ((↑k : Int) < (↑(q.n c) : Int))) (ob (true && decide ((↑k : Int) < (↑(q.n c) : Int))) (ob (decide ((0 : Nat) + (↑k : Int).toNat * (2 : Nat) + (2 : Nat) ≤ (q.L c).length)) (k < q.n c ∧ ob (mx (mostG (q.L c) k) ((q.L c).getD ((0 : Nat) + (↑k : Int).toNat * (2 : Nat) + (1 : Nat)) (0 : Int)) == mostG (q.L c) (k + (1 : Nat))) (ob true (ob true (ob ((q.n c).beq (q.n c)) (ob ((q.n c).ble (q.n c)) (ob ((q.n c).ble (q.n c)) (ob true (ob ((↑(q.n c) : Int) == (↑(q.n c) : Int)) (ob (IntKind.i64.wrap ((↑k : Int) + (1 : Int)) == (↑(k + (1 : Nat)) : Int)) (ob true (ob (q.L c == q.L c) True))))))))))))) (K (SV.v (Value.int IntKind.i64 (mostG (q.L c) k))))))))))))))))
theorem most_vf (q : QS) (K : SV → Prop) : ∀ c : Nat, c < 16 → (vf Try.prog [(24, iqOf)] (mostI q c) Try.f16 [.ptr 0 0, .v (.int .i64 (c : Int))] (tblQ false q) fun s _ _ => K s) = mostF q c K
  | 0, _ => by kernel_rfl
  | 1, _ => by kernel_rfl
  | 2, _ => by kernel_rfl
  | 3, _ => by kernel_rfl
  | 4, _ => by kernel_rfl
  | 5, _ => by kernel_rfl
  | 6, _ => by kernel_rfl
  | 7, _ => by kernel_rfl
  | 8, _ => by kernel_rfl
  | 9, _ => by kernel_rfl
  | 10, _ => by kernel_rfl
  | 11, _ => by kernel_rfl
  | 12, _ => by kernel_rfl
  | 13, _ => by kernel_rfl
  | 14, _ => by kernel_rfl
  | 15, _ => by kernel_rfl
  | n + 16, h => absurd h (by omega)
theorem mostO_vf (q : QS) (c : Int) (K : SV → Prop) : (vf Try.prog [(24, ofOut)] noI Try.f16 [.ptr 0 0, .v (.int .i64 c)] (tblQ false q) fun s _ _ => K s) =
    ((normB (tblQ false q) = tblQ false q ∧ tblLt 17 (tblQ false q) = true) ∧ ob (outC c) (K (.v (.int .i64 0)))) := by kernel_rfl
def mosT (q : QS) (c : Int) : Int := if outC c = true then 0 else mostG (q.L c.toNat) (q.n c.toNat)
def mostS : Spec := .q fun args blks K => match args with
  | [.ptr 0 0, .v (.int .i64 c)] => ∃ q, blks = tblQ false q ∧ okQ q ∧ K (.v (.int .i64 (mosT q c)))
  | _ => False
/-! Refund -/
def rfQ (q : QS) (c : Nat) (e b : Int) : QS := setQ q c (delL (q.L c) (idxZ (q.L c) e b (q.n c)).toNat) (q.n c - 1) (IntKind.i64.wrap (q.B c - b))
def rfF (c : Nat) (q : QS) (e b : Int) (K : SV → List Blk → List Nat → Prop) : Prop :=
  bc (bif false then true else !mayF e b) (K (.v (.int .i64 1)) (tblQ true q) [])
    (ob (decide ((q.L c).length = q.n c * 2) && (decide (q.n c ≤ q.n c) && decide (q.n c ≤ 100000)))
      (bc (decide (idxZ (q.L c) e b (q.n c) < 0)) (K (.v (.int .i64 9)) (tblQ true q) [])
        (ob (decide ((q.L c).length = q.n c * 2) && (decide (0 ≤ idxZ (q.L c) e b (q.n c)) && (decide (idxZ (q.L c) e b (q.n c) < q.n c) && (decide (IntKind.i64.wrap (idxZ (q.L c) e b (q.n c) + 1) = idxZ (q.L c) e b (q.n c) + 1) && decide (q.n c ≤ q.n c)))))
          (K (.v (.int .i64 0)) (tblQ true (rfQ q c e b)) []))))
def rfSpecs : Specs := [(24, iqOf), (26, mayS), (27, idxS), (28, delS)]
theorem rf_vf (q : QS) (e b : Int) (K : SV → List Blk → List Nat → Prop) : ∀ c : Nat, c < 16 → (vf Try.prog rfSpecs noI Try.f19 [.ptr 0 0, .v (.int .i64 (c : Int)), .v (.int .i64 e), .v (.int .i64 b)] (tblQ true q) fun s t m => K s (t.take 17) m) = rfF c q e b K
  | 0, _ => by kernel_rfl
  | 1, _ => by kernel_rfl
  | 2, _ => by kernel_rfl
  | 3, _ => by kernel_rfl
  | 4, _ => by kernel_rfl
  | 5, _ => by kernel_rfl
  | 6, _ => by kernel_rfl
  | 7, _ => by kernel_rfl
  | 8, _ => by kernel_rfl
  | 9, _ => by kernel_rfl
  | 10, _ => by kernel_rfl
  | 11, _ => by kernel_rfl
  | 12, _ => by kernel_rfl
  | 13, _ => by kernel_rfl
  | 14, _ => by kernel_rfl
  | 15, _ => by kernel_rfl
  | n + 16, h => absurd h (by omega)
theorem rfO_vf (q : QS) (c e b : Int) (K : SV → List Blk → List Nat → Prop) : vf Try.prog [(24, ofOut), (26, mayS)] noI Try.f19 [.ptr 0 0, .v (.int .i64 c), .v (.int .i64 e), .v (.int .i64 b)] (tblQ true q) K =
    ((normB (tblQ true q) = tblQ true q ∧ tblLt 17 (tblQ true q) = true) ∧ ob (outC c) (K (.v (.int .i64 1)) (tblQ true q) [])) := by kernel_rfl
def rfE (q : QS) (c e b : Int) : Int := if outC c = true ∨ mayF e b = false then 1 else if idxZ (q.L c.toNat) e b (q.n c.toNat) < 0 then 9 else 0
def rfR (q : QS) (c e b : Int) : QS := if rfE q c e b = 0 then rfQ q c.toNat e b else q
def rfS : Spec := .m fun args blks K => match args with
  | [.ptr 0 0, .v (.int .i64 c), .v (.int .i64 e), .v (.int .i64 b)] => ∃ q, blks = tblQ true q ∧ okQ q ∧ K (.v (.int .i64 (rfE q c e b))) (tblQ true (rfR q c e b)) mvQ
  | _ => False

end Go.Proofs.Ytahkneobmekokaa.Sx
