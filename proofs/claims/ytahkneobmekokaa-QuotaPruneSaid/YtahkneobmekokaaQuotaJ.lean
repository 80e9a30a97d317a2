/- The law of the quota: anything done to any quota. No condition. -/
import Derived.Test.YtahkneobmekokaaSx12
import Derived.Test.YtahkneobmekokaaProg
import Derived.Test.YtahkneobmekokaaBase
import Derived.Test.YtahkneobmekokaaQuota0
import Derived.Test.YtahkneobmekokaaQuotaA
import Derived.Test.YtahkneobmekokaaQuotaB
import Derived.Test.YtahkneobmekokaaQuotaC
import Derived.Test.YtahkneobmekokaaQuotaD
import Derived.Test.YtahkneobmekokaaQuotaE
import Derived.Test.YtahkneobmekokaaQuotaF
import Derived.Test.YtahkneobmekokaaQuotaG
import Derived.Test.YtahkneobmekokaaQuotaH
import Derived.Test.YtahkneobmekokaaQuotaI
namespace Go.Proofs.Ytahkneobmekokaa.Sx
open Go Go.Proofs
set_option maxRecDepth 100000
set_option linter.unusedSimpArgs false
set_option linter.unusedVariables false

structure RS where
  sp : Int
  fi : Int
  pr : Int
  m : Nat
  M : List Int
def dqQ (q : QS) (d c e b : Int) : QS := if d = 0 then chgR q c e b else if d = 1 then rfR q c e b else if d = 2 then prR q e else q
def dqR (r : RS) (d c e b : Int) : RS := if d = 0 then { r with m := rcN r.sp r.fi r.pr r.M r.m c e b, M := rcM r.sp r.fi r.pr r.M r.m c e b } else if d = 1 then { r with m := rfN2 r.M r.m c e b, M := rfM2 r.M r.m c e b } else if d = 2 then { r with pr := mx r.pr e, m := kR r.M e r.m, M := pR r.M e r.m } else r
def dqB (q : QS) (r : RS) (d c e b : Int) : Bool := if d = 0 then chgE q c e b == rcE r.sp r.fi r.pr r.M r.m c e b else if d = 1 then rfE q c e b == rfE2 r.M r.m c e b else if d = 2 then prK q e 16 == IntKind.i64.wrap ((r.m : Int) - (kR r.M e r.m : Int)) else true
def doS : Spec := .m fun args blks K => match args with
  | [.ptr 0 0, .agg [.v (.int .i64 sp), .v (.int .i64 fi), .v (.int .i64 pr), .slc 1 0 m cp 3], .ia .i64 [d, c, e, b]] => ∃ q M, (blks = tblO q M ∧ okQ q ∧ M.length = m * 3 ∧ m ≤ cp ∧ m ≤ 1000) ∧
      K (.tup [rqV (dqR ⟨sp, fi, pr, m, M⟩ d c e b).sp (dqR ⟨sp, fi, pr, m, M⟩ d c e b).fi (dqR ⟨sp, fi, pr, m, M⟩ d c e b).pr 1 (dqR ⟨sp, fi, pr, m, M⟩ d c e b).m (dqR ⟨sp, fi, pr, m, M⟩ d c e b).m, .v (.bool (dqB q ⟨sp, fi, pr, m, M⟩ d c e b))]) (tblO (dqQ q d c e b) (dqR ⟨sp, fi, pr, m, M⟩ d c e b).M) mvO
  | _ => False
theorem accO_ok (q : QS) : ∀ r, SV.okSL (accO q r)
  | [] => by simp only [accO, SV.okSL]
  | i :: r => by
    simp only [accO, SV.okSL, SV.okS]
    exact ⟨Nat.le_refl _, trivial, accO_ok q r⟩
theorem accB_ok (w : Bool) (q : QS) : ∀ r, okST (accB w q r)
  | [] => by simp only [accB, okST]
  | i :: r => by simp only [accB, okST, Blk.okS]; exact ⟨trivial, accB_ok w q r⟩
theorem okO (q : QS) (M : List Int) : okST (tblO q M) := by
  simp only [tblO, okST, Blk.okS, SV.okSL, SV.okS]
  exact ⟨⟨trivial, trivial, trivial, accO_ok q _⟩, trivial, accB_ok true q _⟩
theorem ltO (q : QS) (M : List Int) : tblLt 18 (tblO q M) = true := by kernel_rfl
theorem lenO (q : QS) (M : List Int) : (tblO q M).length = 18 := by kernel_rfl
theorem eqE_mk (c : Int) {X : Prop} (h : X) : eqE c X := ob_mk (by rw [beq_iff_eq]) h
theorem tree8_mk (c : Int) {Z : Prop} (h : Z) : tree8 c Z := by
  unfold tree8
  have e := fun {X : Prop} (h : X) => eqE_mk c h
  exact ⟨e ⟨e (e h), e (e h)⟩, e ⟨e (e h), e ⟨e h, h⟩⟩, e ⟨e (e h), e ⟨e h, h⟩⟩⟩
theorem doS_ok : SpecOK Try.prog 11 doS := by
  refine ⟨enters_of Try.func11 rfl rfl, fun args blks K h => ?_⟩
  simp only at h
  split at h
  · rename_i sp fi pr m cp d c e b
    obtain ⟨q, M, ⟨rfl, hq, hl, hcp, hm⟩, hK⟩ := h
    have hS : SpecsOK Try.prog (doSpecs q) := .cons chgR_ok (.cons (chgP_ok q) (.cons rfR_ok (.cons (rfP_ok q) (.cons prR_ok (.cons (prP_ok q) .nil)))))
    refine FnOK.le (FnOK.trimQ 18 (by rw [lenO]; exact Nat.le_refl _) (FnOK.of_vf (I := noI) mixed hS Try.func11 ?_))
    rw [do_vf q M sp fi pr d c e b m cp (fun s t mv => ∃ m', ((s.lt 18 && tblLt 18 t) && (Nat.beq t.length 18 && subB mv m')) = true ∧ ∃ s' t' m2, SV.le s s' ∧ tblLe t t' ∧ (s'.lt t'.length && tblLt t'.length t' && Nat.ble (tblO q M).length t'.length && subB m' m2) = true ∧ K s' t' m2)]
    have hc : (decide (M.length = m * 3) && (decide (m ≤ cp) && decide (m ≤ 1000))) = true := by simp only [Bool.and_eq_true, decide_eq_true_eq]; exact ⟨hl, hcp, hm⟩
    have fin : ∀ (x y z : Int) (m1 cp1 : Nat) (B : Bool) (q1 : QS) (M1 : List Int) (mv : List Nat), subB mv mvO = true → m1 ≤ cp1 → K (.tup [rqV x y z 1 m1 m1, .v (.bool B)]) (tblO q1 M1) mvO →
        ∃ m', ((SV.lt 18 (.tup [rqV x y z 1 m1 cp1, .v (.bool B)]) && tblLt 18 (tblO q1 M1)) && (Nat.beq (tblO q1 M1).length 18 && subB mv m')) = true ∧ ∃ s' t' m2, SV.le (.tup [rqV x y z 1 m1 cp1, .v (.bool B)]) s' ∧ tblLe (tblO q1 M1) t' ∧ (s'.lt t'.length && tblLt t'.length t' && Nat.ble (tblO q M).length t'.length && subB m' m2) = true ∧ K s' t' m2 := fun x y z m1 cp1 B q1 M1 mv hs hle h => by
      refine ⟨mvO, by rw [ltO, lenO, hs]; rfl, _, _, mvO, ?_, tblLe_self _ (okO q1 M1), by rw [lenO, lenO, ltO]; rfl, h⟩
      simp [rqV, SV.le, SV.leL, veq, hle]
    unfold doF
    refine bc_mk (fun h1 => ?_) fun h1 => bc_mk (fun h2 => ?_) fun h2 => bc_mk (fun h3 => ?_) fun h3 => ?_
    · rw [beq_iff_eq] at h1
      rw [dqR, dqB, dqQ, if_pos h1, if_pos h1, if_pos h1] at hK
      exact ob_mk hc (tree8_mk c ⟨⟨rfl, hq⟩, fin _ _ _ _ _ _ _ _ _ rfl (Nat.le_refl _) hK⟩)
    · rw [beq_eq_false_iff_ne] at h1
      rw [beq_iff_eq] at h2
      rw [dqR, dqB, dqQ, if_neg h1, if_neg h1, if_neg h1, if_pos h2, if_pos h2, if_pos h2] at hK
      exact ob_mk hc (tree8_mk c ⟨⟨rfl, hq⟩, fin _ _ _ _ _ _ _ _ _ rfl (Nat.le_refl _) hK⟩)
    · rw [beq_eq_false_iff_ne] at h1 h2
      rw [beq_iff_eq] at h3
      rw [dqR, dqB, dqQ, if_neg h1, if_neg h1, if_neg h1, if_neg h2, if_neg h2, if_neg h2, if_pos h3, if_pos h3, if_pos h3] at hK
      have hz := fin _ _ _ _ _ _ _ _ _ (rfl : subB mvO mvO = true) (Nat.le_refl _) hK
      exact ob_mk hc ⟨eqE_mk e ⟨⟨rfl, hq⟩, hz⟩, ⟨rfl, hq⟩, hz⟩
    · rw [beq_eq_false_iff_ne] at h1 h2 h3
      rw [dqR, dqB, dqQ, if_neg h1, if_neg h1, if_neg h1, if_neg h2, if_neg h2, if_neg h2, if_neg h3, if_neg h3, if_neg h3] at hK
      exact fin _ _ _ _ _ _ _ _ _ rfl hcp hK
  · exact h.elim
/-! The loop -/
def tblL (D : List Int) (q : QS) (r : RS) : List Blk := .ints false .i64 D :: .cells true (.v (.int .i64 q.sp) :: .v (.int .i64 q.fi) :: .v (.int .i64 q.pr) :: accO q r16) :: (accB true q r16 ++ [.cells true [.v (.int .i64 r.sp), .v (.int .i64 r.fi), .v (.int .i64 r.pr), .slc 19 0 r.m r.m 3], .ints false .i64 r.M])
def mvL : List Nat := [1, 2, 3, 4, 5, 6, 7, 8, 9, 10, 11, 12, 13, 14, 15, 16, 17, 18, 19]
def plEnv (a b : Int) (n cp : Nat) (k : Int) : Env := [(9, .v (.int .i64 k)), (0, .v (.int .i64 a)), (1, .v (.int .i64 b)), (2, .slc 0 0 n cp 4), (7, .ptr 1 0), (8, .ptr 18 0)]
def plSt (D : List Int) (a b : Int) (n cp : Nat) (k : Int) (q : QS) (r : RS) : St := ⟨plEnv a b n cp k, 100, tblL D q r, mvL, 1⟩
/-- Both behind so many deeds. -/
def runQ (D : List Int) (a b : Int) : Nat → QS
  | 0 => newQ a b
  | k + 1 => dqQ (runQ D a b k) (D.getD (k * 4) 0) (D.getD (k * 4 + 1) 0) (D.getD (k * 4 + 2) 0) (D.getD (k * 4 + 3) 0)
def runR (D : List Int) (a b : Int) : Nat → RS
  | 0 => ⟨mn (mx a 0) 1048576, mn (mx b 0) 32, -1, 0, []⟩
  | k + 1 => dqR (runR D a b k) (D.getD (k * 4) 0) (D.getD (k * 4 + 1) 0) (D.getD (k * 4 + 2) 0) (D.getD (k * 4 + 3) 0)
def plI (D : List Int) (a b : Int) (n cp : Nat) : Nat → St → LK := fun id st => match id with
  | 0 => .inv n fun k => plSt D a b n cp (k : Int) (runQ D a b k) (runR D a b k)
  | _ => .unroll 20
def plSpecs : Specs := [(8, closedS), (9, newS), (10, newRS), (11, doS), (12, usedS), (13, usedRS), (14, totS), (15, totRS), (16, mostS), (17, mosRS)]
def rOk (r : RS) (X : Prop) : Prop := ob (decide (r.M.length = r.m * 3) && (decide (r.m ≤ r.m) && decide (r.m ≤ 100000))) X
def idxO (D : List Int) (n k o s : Nat) (X : Prop) : Prop := ob (true && decide ((k : Int) < (n : Int))) (ob (decide (0 + (k : Int).toNat * 4 + o < D.length)) X)
/-- Behind the deed: the answers compared. -/
def plR (D : List Int) (a b : Int) (n cp k : Nat) (q : QS) (r : RS) (same : Bool) (c : Int) (F C : Prop) : Prop :=
  ob (true && decide ((k : Int) < (n : Int))) (ob (decide (0 + (k : Int).toNat * 4 + 1 < D.length)) (∃ q1, tblQ false q = tblQ false q1 ∧
    ob (true && decide ((k : Int) < (n : Int))) (ob (decide (0 + (k : Int).toNat * 4 + 1 < D.length)) (rOk r
      (bc (!same) F (bc (bif false then true else useB q1 c != rB r.M c r.m) F (bc (bif false then true else useN q1 c != rN r.M c r.m) F
        (∃ q2, tblQ false q = tblQ false q2 ∧ rOk r (bc (bif false then true else totW q2 != rT r.M r.m) F
          (ob (true && decide ((k : Int) < (n : Int))) (ob (decide (0 + (k : Int).toNat * 4 + 1 < D.length)) (∃ q3, tblQ false q = tblQ false q3 ∧ okQ q3 ∧
            ob (true && decide ((k : Int) < (n : Int))) (ob (decide (0 + (k : Int).toNat * 4 + 1 < D.length)) (rOk r
              (bc (bif false then true else mosT q3 c != rX r.M c r.m) F C)))))))))))))))
def plL (D : List Int) (a b : Int) (n cp k : Nat) (q : QS) (r : RS) (d c e x : Int) (F : Prop) : Prop :=
  ∃ q' M', (tblO q r.M = tblO q' M' ∧ okQ q' ∧ M'.length = r.m * 3 ∧ r.m ≤ r.m ∧ r.m ≤ 1000) ∧
    plR D a b n cp k (dqQ q' d c e x) (dqR ⟨r.sp, r.fi, r.pr, r.m, M'⟩ d c e x) (dqB q' ⟨r.sp, r.fi, r.pr, r.m, M'⟩ d c e x) c F
      (k < n ∧ stLe (plSt D a b n cp (IntKind.i64.wrap ((k : Int) + 1)) (dqQ q' d c e x) (dqR ⟨r.sp, r.fi, r.pr, r.m, M'⟩ d c e x)) (plSt D a b n cp ((k + 1 : Nat) : Int) (runQ D a b (k + 1)) (runR D a b (k + 1))) True)
def plT (D : List Int) (k : Nat) (L : Prop) : Prop :=
  ((ob (decide (0 + (k : Int).toNat * 4 + 4 ≤ D.length)) (L ∧ L)) ∧ ob (decide (0 + (k : Int).toNat * 4 + 4 ≤ D.length)) L) ∧
    (ob (decide (0 + (k : Int).toNat * 4 + 4 ≤ D.length)) ((L ∧ L) ∧ L) ∧ (ob (decide (0 + (k : Int).toNat * 4 + 4 ≤ D.length)) L ∧ ob (decide (0 + (k : Int).toNat * 4 + 4 ≤ D.length)) L))
def plF (D : List Int) (a b : Int) (n cp : Nat) (K : SV → Prop) : Prop :=
  bc (decide ((n : Int) > 100)) (K (.v (.bool true)))
    (stLe ⟨plEnv a b n cp 0, 100, .ints false .i64 D :: .cells true (.v (.int .i64 (newQ a b).sp) :: .v (.int .i64 (newQ a b).fi) :: .v (.int .i64 (newQ a b).pr) :: accO (newQ a b) r16) :: (accB true (newQ a b) r16 ++ [.cells true [.v (.int .i64 (mn (mx a 0) 1048576)), .v (.int .i64 (mn (mx b 0) 32)), .v (.int .i64 (-1)), .v (.slice none 0 0)]]), [], 1⟩
      (plSt D a b n cp ((0 : Nat) : Int) (runQ D a b 0) (runR D a b 0))
      (∀ k, k ≤ n → bc (decide ((k : Int) < (n : Int)))
        (ob (true && decide ((k : Int) < (n : Int))) (plT D k (plL D a b n cp k (runQ D a b k) (runR D a b k) (D.getD (0 + (k : Int).toNat * 4 + 0) 0) (D.getD (0 + (k : Int).toNat * 4 + 1) 0) (D.getD (0 + (k : Int).toNat * 4 + 2) 0) (D.getD (0 + (k : Int).toNat * 4 + 3) 0) (K (.v (.bool false))))))
        (K (.v (.bool true)))))
theorem pl_vf (D : List Int) (a b : Int) (n cp : Nat) (K : SV → Prop) : (vf Try.prog plSpecs (plI D a b n cp) Try.f3 [.v (.int .i64 a), .v (.int .i64 b), .slc 0 0 n cp 4] [.ints false .i64 D] fun s _ _ => K s) = plF D a b n cp K := by kernel_rfl

end Go.Proofs.Ytahkneobmekokaa.Sx
