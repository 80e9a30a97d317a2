/- The law of the quota: a deed of both. No condition. -/
import Derived.Test.YtahkneobmekokaaSx12
import Derived.Test.YtahkneobmekokaaProg
import Derived.Test.YtahkneobmekokaaBase
import Derived.Test.YtahkneobmekokaaQuota0
import Derived.Test.YtahkneobmekokaaQuotaA
import Derived.Test.YtahkneobmekokaaQuotaB
import Derived.Test.YtahkneobmekokaaQuotaC
import Derived.Test.YtahkneobmekokaaQuotaD
import Derived.Test.YtahkneobmekokaaQuotaE
import Derived.Test.YtahkneobmekokaaQuotaF
import Derived.Test.YtahkneobmekokaaQuotaG
import Derived.Test.YtahkneobmekokaaQuotaH
namespace Go.Proofs.Ytahkneobmekokaa.Sx
open Go Go.Proofs
set_option maxRecDepth 100000
set_option linter.unusedSimpArgs false
set_option linter.unusedVariables false

def accO (q : QS) : List Nat → List SV
  | [] => []
  | i :: r => .slc (i + 2) 0 (q.n i) (q.n i) 2 :: .v (.int .i64 (q.B i)) :: accO q r
/-- The program's quota and the reference's list. -/
def tblO (q : QS) (M : List Int) : List Blk := .cells true (.v (.int .i64 q.sp) :: .v (.int .i64 q.fi) :: .v (.int .i64 q.pr) :: accO q r16) :: .ints false .i64 M :: accB true q r16
def chgP (q : QS) : Spec := .m fun args blks K => match args with
  | [.ptr 0 0, .v (.int .i64 c), .v (.int .i64 e), .v (.int .i64 b)] => (blks = tblQ true q ∧ okQ q) ∧ K (.v (.int .i64 (chgE q c e b))) (tblQ true (chgR q c e b)) mvQ
  | _ => False
def rfP (q : QS) : Spec := .m fun args blks K => match args with
  | [.ptr 0 0, .v (.int .i64 c), .v (.int .i64 e), .v (.int .i64 b)] => (blks = tblQ true q ∧ okQ q) ∧ K (.v (.int .i64 (rfE q c e b))) (tblQ true (rfR q c e b)) mvQ
  | _ => False
def prP (q : QS) : Spec := .m fun args blks K => match args with
  | [.ptr 0 0, .v (.int .i64 e)] => (blks = tblQ true q ∧ okQ q) ∧ K (.v (.int .i64 (prK q e 16))) (tblQ true (prR q e)) mvQ
  | _ => False
theorem chgP_ok (q : QS) : SpecOK Try.prog 18 (chgP q) := ⟨chg_ok.1, fun args blks K h => chg_ok.2 args blks K (by
  simp only at h ⊢
  split at h
  · exact ⟨q, h.1.1, h.1.2, h.2⟩
  · exact h.elim)⟩
theorem rfP_ok (q : QS) : SpecOK Try.prog 19 (rfP q) := ⟨rfS_ok.1, fun args blks K h => rfS_ok.2 args blks K (by
  simp only at h ⊢
  split at h
  · exact ⟨q, h.1.1, h.1.2, h.2⟩
  · exact h.elim)⟩
theorem prP_ok (q : QS) : SpecOK Try.prog 20 (prP q) := ⟨prS_ok.1, fun args blks K h => prS_ok.2 args blks K (by
  simp only at h ⊢
  split at h
  · exact ⟨q, h.1.1, h.1.2, h.2⟩
  · exact h.elim)⟩
def doSpecs (q : QS) : Specs := [(21, chgRS), (18, chgP q), (22, rfRS), (19, rfP q), (23, prRS), (20, prP q)]
def doC (q : QS) (M : List Int) (m cp : Nat) (X : Prop) : Prop := ob (decide (M.length = m * 3) && (decide (m ≤ cp) && decide (m ≤ 1000))) X
def doQ (q : QS) (X : Prop) : Prop := (tblQ true q = tblQ true q ∧ okQ q) ∧ X
def eqE (c : Int) (X : Prop) : Prop := ob (c == c) X
def mvO : List Nat := [1, 2, 3, 4, 5, 6, 7, 8, 9, 10, 11, 12, 13, 14, 15, 16, 17]
def tree8 (c : Int) (Z : Prop) : Prop := eqE c (eqE c (eqE c Z) ∧ eqE c (eqE c Z)) ∧ (eqE c (eqE c (eqE c Z) ∧ eqE c (eqE c Z ∧ Z)) ∧ eqE c (eqE c (eqE c Z) ∧ eqE c (eqE c Z ∧ Z)))
def doF (q : QS) (M : List Int) (sp fi pr d c e b : Int) (m cp : Nat) (K : SV → List Blk → List Nat → Prop) : Prop :=
  bc (d == 0) (doC q M m cp (tree8 c (doQ q (K (.tup [rqV sp fi pr 1 (rcN sp fi pr M m c e b) (rcN sp fi pr M m c e b), .v (.bool (chgE q c e b == rcE sp fi pr M m c e b))]) (tblO (chgR q c e b) (rcM sp fi pr M m c e b)) mvO))))
    (bc (d == 1) (doC q M m cp (tree8 c (doQ q (K (.tup [rqV sp fi pr 1 (rfN2 M m c e b) (rfN2 M m c e b), .v (.bool (rfE q c e b == rfE2 M m c e b))]) (tblO (rfR q c e b) (rfM2 M m c e b)) mvO))))
      (bc (d == 2) (doC q M m cp (eqE e (doQ q (K (.tup [rqV sp fi (mx pr e) 1 (kR M e m) (kR M e m), .v (.bool (prK q e 16 == IntKind.i64.wrap ((m : Int) - (kR M e m : Int))))]) (tblO (prR q e) (pR M e m)) mvO)) ∧
          doQ q (K (.tup [rqV sp fi (mx pr e) 1 (kR M e m) (kR M e m), .v (.bool (prK q e 16 == IntKind.i64.wrap ((m : Int) - (kR M e m : Int))))]) (tblO (prR q e) (pR M e m)) mvO)))
        (K (.tup [rqV sp fi pr 1 m cp, .v (.bool true)]) (tblO q M) [])))
theorem do_vf (q : QS) (M : List Int) (sp fi pr d c e b : Int) (m cp : Nat) (K : SV → List Blk → List Nat → Prop) :
    (vf Try.prog (doSpecs q) noI Try.f11 [.ptr 0 0, .agg [.v (.int .i64 sp), .v (.int .i64 fi), .v (.int .i64 pr), .slc 1 0 m cp 3], .ia .i64 [d, c, e, b]] (tblO q M) fun s t m => K s (t.take 18) m) = doF q M sp fi pr d c e b m cp K := by kernel_rfl

end Go.Proofs.Ytahkneobmekokaa.Sx
