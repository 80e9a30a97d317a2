/- The statement QuotaBound. No condition. -/
import Derived.Test.YtahkneobmekokaaSx12
import Derived.Test.YtahkneobmekokaaProg
import Derived.Test.YtahkneobmekokaaBase
import Derived.Test.YtahkneobmekokaaSlices
import Derived.Test.YtahkneobmekokaaQuota0
import Derived.Test.YtahkneobmekokaaQuotaA
import Derived.Test.YtahkneobmekokaaQuotaB
import Derived.Test.YtahkneobmekokaaQuotaC
import Derived.Test.YtahkneobmekokaaQuotaD
import Derived.Test.YtahkneobmekokaaQuotaE
import Derived.Test.YtahkneobmekokaaQuotaF
import Derived.Test.YtahkneobmekokaaQuotaG
import Derived.Test.YtahkneobmekokaaQuotaH
import Derived.Test.YtahkneobmekokaaQuotaI
import Derived.Test.YtahkneobmekokaaQuotaJ
import Derived.Test.YtahkneobmekokaaQuotaL
import Derived.Test.YtahkneobmekokaaQuotaM
import Derived.Test.YtahkneobmekokaaQuotaP
namespace Go.Proofs.Ytahkneobmekokaa.Sx
open Go Go.Proofs
set_option maxRecDepth 100000
set_option linter.unusedSimpArgs false
set_option linter.unusedVariables false

def tblE (D : List Int) (q : QS) : List Blk := .ints false .i64 D :: .cells true (.v (.int .i64 q.sp) :: .v (.int .i64 q.fi) :: .v (.int .i64 q.pr) :: accO q r16) :: accB true q r16
def mvB : List Nat := [1, 2, 3, 4, 5, 6, 7, 8, 9, 10, 11, 12, 13, 14, 15, 16, 17]
def mvC : List Nat := [2, 3, 4, 5, 6, 7, 8, 9, 10, 11, 12, 13, 14, 15, 16, 17]
def rowB (q : QS) : List Int := [q.B 0, q.B 1, q.B 2, q.B 3, q.B 4, q.B 5, q.B 6, q.B 7, q.B 8, q.B 9, q.B 10, q.B 11, q.B 12, q.B 13, q.B 14, q.B 15]
def sumL (l : List Int) : Nat → Int
  | 0 => 0
  | c + 1 => IntKind.i64.wrap (sumL l c + l.getD c 0)
def intAt (l : List SV) (i : Nat) : Int := match nth l i with
  | some (.v (.int _ x)) => x
  | _ => 0
def bsOf (t : List Blk) : List Int := match nth t 1 with
  | some (.cells _ l) => [intAt l 4, intAt l 6, intAt l 8, intAt l 10, intAt l 12, intAt l 14, intAt l 16, intAt l 18, intAt l 20, intAt l 22, intAt l 24, intAt l 26, intAt l 28, intAt l 30, intAt l 32, intAt l 34]
  | _ => []
def bdEnv (a b : Int) (n cp : Nat) (k : Int) : Env := [(8, .v (.int .i64 k)), (0, .v (.int .i64 a)), (1, .v (.int .i64 b)), (2, .slc 0 0 n cp 4), (7, .ptr 1 0)]
def bdSt (D : List Int) (a b : Int) (n cp : Nat) (k : Int) (q : QS) (mv : List Nat) : St := ⟨bdEnv a b n cp k, 104, tblE D q, mv, 1⟩
def biEnv (a b : Int) (n cp : Nat) (k c s : Int) : Env := (11, .v (.int .i64 c)) :: (10, .v (.int .i64 s)) :: (9, .ptr 18 0) :: bdEnv a b n cp k
def biSt (D : List Int) (a b : Int) (n cp : Nat) (k : Int) (q : QS) (x0 x1 x2 x3 : Int) (mv : List Nat) (c s : Int) : St := ⟨biEnv a b n cp k c s, 104, tblE D q ++ [.cells true [.v (.int .i64 x0), .v (.int .i64 x1), .v (.int .i64 x2), .v (.int .i64 x3)]], mv, 1⟩
def bdI (D : List Int) (a b : Int) (n cp : Nat) : Nat → St → LK := fun id st => match id with
  | 0 => .inv n fun k => bdSt D a b n cp (k : Int) (runQ D a b k) mvB
  | 3 => .inv 16 fun c => { st with env := (11, .v (.int .i64 (c : Int))) :: (10, .v (.int .i64 (sumL (bsOf st.tbl) c))) :: keep st.env [9, 8, 0, 1, 2, 7] }
  | _ => .unroll 20
def bdSpecs : Specs := [(8, closedS), (9, newS), (18, chgS), (19, rfS), (20, prS), (12, usedS), (14, totS), (16, mostS)]
/-- Behind a deed: every client, the sum. -/
def bdR (D : List Int) (a b : Int) (n cp k : Nat) (q : QS) (x0 x1 x2 x3 : Int) (mv : List Nat) (F : Prop) : Prop :=
  stLe (biSt D a b n cp k q x0 x1 x2 x3 mv 0 0) (biSt D a b n cp k q x0 x1 x2 x3 mv ((0 : Nat) : Int) (sumL (rowB q) 0)) (∀ c : Nat, c ≤ 16 →
    bc (decide ((c : Int) ≤ 15))
      (∃ q2, tblQ false q = tblQ false q2 ∧ bc (decide (useB q2 c < 0)) F (bc (bif false then true else decide (useB q2 c > mn (mx a 0) 1048576)) F (bc (bif false then true else decide (useN q2 c < 0)) F (bc (bif false then true else decide (useN q2 c > mn (mx b 0) 32)) F
        (∃ q3, tblQ false q = tblQ false q3 ∧ okQ q3 ∧ bc (bif false then true else decide (mosT q3 c > useB q2 c)) F
          (c < 16 ∧ stLe (biSt D a b n cp k q x0 x1 x2 x3 mv (IntKind.i64.wrap ((c : Int) + 1)) (IntKind.i64.wrap (sumL (rowB q) c + useB q2 c))) (biSt D a b n cp k q x0 x1 x2 x3 mv ((c + 1 : Nat) : Int) (sumL (rowB q) (c + 1))) True))))))
      (∃ q4, tblQ false q = tblQ false q4 ∧ bc (sumL (rowB q) c != totW q4) F
        (k < n ∧ stLe (bdSt D a b n cp (IntKind.i64.wrap ((k : Int) + 1)) q mv) (bdSt D a b n cp ((k + 1 : Nat) : Int) (runQ D a b (k + 1)) mvB) True)))
def bdF (D : List Int) (a b : Int) (n cp : Nat) (K : SV → Prop) : Prop :=
  bc (decide ((n : Int) > 100)) (K (.v (.bool true)))
    (stLe (bdSt D a b n cp 0 (newQ a b) []) (bdSt D a b n cp ((0 : Nat) : Int) (runQ D a b 0) mvB)
      (∀ k, k ≤ n → bc (decide ((k : Int) < (n : Int)))
        (ob (true && decide ((k : Int) < (n : Int))) (ob (decide (0 + (k : Int).toNat * 4 + 4 ≤ D.length))
          (bc (D.getD (0 + (k : Int).toNat * 4 + 0) 0 == 0) (∃ q', tblQ true (runQ D a b k) = tblQ true q' ∧ okQ q' ∧ bdR D a b n cp k (chgR q' (D.getD (0 + (k : Int).toNat * 4 + 1) 0) (D.getD (0 + (k : Int).toNat * 4 + 2) 0) (D.getD (0 + (k : Int).toNat * 4 + 3) 0)) (D.getD (0 + (k : Int).toNat * 4 + 0) 0) (D.getD (0 + (k : Int).toNat * 4 + 1) 0) (D.getD (0 + (k : Int).toNat * 4 + 2) 0) (D.getD (0 + (k : Int).toNat * 4 + 3) 0) (mvB ++ mvC) (K (.v (.bool false))))
            (bc (D.getD (0 + (k : Int).toNat * 4 + 0) 0 == 1) (∃ q', tblQ true (runQ D a b k) = tblQ true q' ∧ okQ q' ∧ bdR D a b n cp k (rfR q' (D.getD (0 + (k : Int).toNat * 4 + 1) 0) (D.getD (0 + (k : Int).toNat * 4 + 2) 0) (D.getD (0 + (k : Int).toNat * 4 + 3) 0)) (D.getD (0 + (k : Int).toNat * 4 + 0) 0) (D.getD (0 + (k : Int).toNat * 4 + 1) 0) (D.getD (0 + (k : Int).toNat * 4 + 2) 0) (D.getD (0 + (k : Int).toNat * 4 + 3) 0) (mvB ++ mvC) (K (.v (.bool false))))
              (bc (D.getD (0 + (k : Int).toNat * 4 + 0) 0 == 2) (∃ q', tblQ true (runQ D a b k) = tblQ true q' ∧ okQ q' ∧ bdR D a b n cp k (prR q' (D.getD (0 + (k : Int).toNat * 4 + 2) 0)) (D.getD (0 + (k : Int).toNat * 4 + 0) 0) (D.getD (0 + (k : Int).toNat * 4 + 1) 0) (D.getD (0 + (k : Int).toNat * 4 + 2) 0) (D.getD (0 + (k : Int).toNat * 4 + 3) 0) (mvB ++ mvC) (K (.v (.bool false))))
                (bdR D a b n cp k (runQ D a b k) (D.getD (0 + (k : Int).toNat * 4 + 0) 0) (D.getD (0 + (k : Int).toNat * 4 + 1) 0) (D.getD (0 + (k : Int).toNat * 4 + 2) 0) (D.getD (0 + (k : Int).toNat * 4 + 3) 0) mvB (K (.v (.bool false)))))))))
        (K (.v (.bool true)))))
theorem bd_vf (D : List Int) (a b : Int) (n cp : Nat) (K : SV → Prop) : (vf Try.prog bdSpecs (bdI D a b n cp) Try.f4 [.v (.int .i64 a), .v (.int .i64 b), .slc 0 0 n cp 4] [.ints false .i64 D] fun s _ _ => K s) = bdF D a b n cp K := by kernel_rfl
theorem ltE (D : List Int) (q : QS) : tblLt 18 (tblE D q) = true := by kernel_rfl
theorem lenE (D : List Int) (q : QS) : (tblE D q).length = 18 := by kernel_rfl
theorem okE (D : List Int) (q : QS) : okST (tblE D q) := by
  simp only [tblE, okST, Blk.okS, SV.okSL, SV.okS]
  exact ⟨trivial, ⟨trivial, trivial, trivial, accO_ok q _⟩, accB_ok true q _⟩
theorem bdEnv_le (a b : Int) {n cp : Nat} (hc : n ≤ cp) {k k' : Int} (hk : k = k') {K : Prop} (h : K) : envLeK (bdEnv a b n cp k) (bdEnv a b n cp k') K := by
  subst hk
  simp only [bdEnv, envLeK, look, Nat.reduceBEq, Nat.beq_eq_true_eq]
  have key : ∀ (s : SV) (K : Prop), s.okS → K → SV.leK s s K := leK_self
  exact key _ _ (by simp [SV.okS]) (key _ _ (by simp [SV.okS]) (key _ _ (by simp [SV.okS]) (key _ _ (by simp only [SV.okS]; exact hc) (key _ _ (by simp [SV.okS]) h))))
theorem bdSt_le (D : List Int) (a b : Int) {n cp : Nat} (hc : n ≤ cp) {k k' : Int} (hk : k = k') {q q' : QS} (hq : q = q') {m m' : List Nat} (hm : subB m m' = true) {K : Prop} (h : K) : stLe (bdSt D a b n cp k q m) (bdSt D a b n cp k' q' m') K := by
  subst hq
  refine stLe_mk rfl rfl (by show 1 ≤ (tblE D q).length; rw [lenE]; omega) hm ?_ (bdEnv_le a b hc hk (tblLeK_self _ _ (okE D q) h))
  show (envLt (tblE D q).length (bdEnv a b n cp k') && tblLt (tblE D q).length (tblE D q)) = true
  rw [lenE, ltE]; rfl
theorem subB_refl : ∀ (m : List Nat), subB m m = true := fun m => by
  have : ∀ (l m : List Nat), (∀ x ∈ l, x ∈ m) → subB l m = true := by
    intro l
    induction l with
    | nil => intro m _; rfl
    | cons x l ih => intro m h; simp only [subB, Bool.and_eq_true]; exact ⟨(mem_iff _ _).2 (h x (by simp)), ih m (fun y hy => h y (by simp [hy]))⟩
  exact this m m (fun _ h => h)
theorem biSt_le (D : List Int) (a b : Int) {n cp : Nat} (hc : n ≤ cp) (k : Int) (q : QS) (x0 x1 x2 x3 : Int) (m : List Nat) {c c' s s' : Int} (h1 : c = c') (h2 : s = s') {K : Prop} (h : K) : stLe (biSt D a b n cp k q x0 x1 x2 x3 m c s) (biSt D a b n cp k q x0 x1 x2 x3 m c' s') K := by
  subst h1 h2
  have hl : (tblE D q ++ [Blk.cells true [.v (.int .i64 x0), .v (.int .i64 x1), .v (.int .i64 x2), .v (.int .i64 x3)]]).length = 19 := by rw [List.length_append, lenE]; rfl
  refine stLe_mk rfl rfl (by show 1 ≤ (tblE D q ++ _).length; rw [hl]; omega) (subB_refl m) ?_ ?_
  · show (envLt (tblE D q ++ _).length (biEnv a b n cp k c s) && tblLt (tblE D q ++ _).length (tblE D q ++ _)) = true
    rw [hl]
    have : tblLt 19 (tblE D q ++ [Blk.cells true [.v (.int .i64 x0), .v (.int .i64 x1), .v (.int .i64 x2), .v (.int .i64 x3)]]) = true := by kernel_rfl
    rw [this]; rfl
  · show envLeK (biEnv a b n cp k c s) (biEnv a b n cp k c s) _
    have key : ∀ (s : SV) (K : Prop), s.okS → K → SV.leK s s K := leK_self
    simp only [biEnv, bdEnv, envLeK, look, Nat.reduceBEq, Nat.beq_eq_true_eq]
    refine key _ _ (by simp [SV.okS]) (key _ _ (by simp [SV.okS]) (key _ _ (by simp [SV.okS]) (key _ _ (by simp [SV.okS]) (key _ _ (by simp [SV.okS]) (key _ _ (by simp [SV.okS]) (key _ _ (by simp only [SV.okS]; exact hc) (key _ _ (by simp [SV.okS]) ?_)))))))
    refine tblLeK_self _ _ (okST_app (okE D q) ?_) h
    simp [okST, Blk.okS, SV.okSL, SV.okS]
theorem mB_le : ∀ P : List PF, (∀ p ∈ P, 0 ≤ p.2) → mB P ≤ sB P
  | [], _ => by simp [mB, sB]
  | p :: r, h => by
    have h1 := h p (by simp)
    have h2 := mB_le r (fun x hx => h x (by simp [hx]))
    have h3 := sB_nn r (fun x hx => h x (by simp [hx]))
    simp only [mB, sB]; omega
theorem sum_16 (q : QS) : sumL (rowB q) 16 = totW q := by
  simp only [sumL, rowB, totW, r16, List.foldl, List.getD_cons_zero, List.getD_cons_succ]
theorem row_get (sp fi pr : Int) (P : Nat → List PF) : ∀ c : Nat, c < 16 → (rowB (qOf sp fi pr P)).getD c 0 = sB (P c)
  | 0, _ | 1, _ | 2, _ | 3, _ | 4, _ | 5, _ | 6, _ | 7, _ | 8, _ | 9, _ | 10, _ | 11, _ | 12, _ | 13, _ | 14, _ | 15, _ => rfl
  | n + 16, h => absurd h (by omega)
set_option maxHeartbeats 1000000 in
theorem bdR_mk {D : List Int} {a b : Int} {n cp k : Nat} (hcp : n ≤ cp) (hkn : k < n) {pr : Int} {P : Nat → List PF} (hV : VP (mn (mx a 0) 1048576) (mn (mx b 0) 32) P) (hq : runQ D a b (k + 1) = qOf (mn (mx a 0) 1048576) (mn (mx b 0) 32) pr P) (hf0 : 0 ≤ mn (mx b 0) 32) (hk : k ≤ 100) (x0 x1 x2 x3 : Int) {mv : List Nat} (hm : subB mv mvB = true) (F : Prop) :
    bdR D a b n cp k (qOf (mn (mx a 0) 1048576) (mn (mx b 0) 32) pr P) x0 x1 x2 x3 mv F := by
  have rb : ∀ (x : Bool) (p q : Prop), x = false → q → bc x p q := fun x p q hx hq => by rw [hx]; exact hq
  unfold bdR
  refine biSt_le D a b hcp _ _ _ _ _ _ _ rfl (by rw [sumL]) fun c hc => bc_mk (fun h1 => ?_) fun h1 => ?_
  · have h1 := of_decide_eq_true h1
    have hc16 : c < 16 := by omega
    have ho : ¬ outC (c : Int) = true := by rw [outC_nat hc16]; decide
    have e1 : useB (qOf (mn (mx a 0) 1048576) (mn (mx b 0) 32) pr P) c = sB (P c) := by rw [useB, if_neg ho, Int.toNat_natCast]; rfl
    have e2 : useN (qOf (mn (mx a 0) 1048576) (mn (mx b 0) 32) pr P) c = ((P c).length : Int) := by rw [useN, if_neg ho, Int.toNat_natCast]; rfl
    have e3 : mosT (qOf (mn (mx a 0) 1048576) (mn (mx b 0) 32) pr P) c = mB (P c) := by
      rw [mosT, if_neg ho, Int.toNat_natCast]
      show mostG (fl2 (P c)) (P c).length = _
      rw [mostG_of _ _ (Nat.le_refl _), List.take_length]
    have g1 := hV.nn c
    have g2 := hV.sum c
    have g3 : ((P c).length : Int) ≤ mn (mx b 0) 32 := by
      rcases hV.len c with h | h
      · exact h
      · rw [h]; exact hf0
    have g4 := mB_le (P c) (fun p hp => (hV.each c p hp).2.2)
    refine ⟨_, rfl, rb _ _ _ ?_ (rb _ _ _ ?_ (rb _ _ _ ?_ (rb _ _ _ ?_ ⟨_, rfl, hV.okq, rb _ _ _ ?_ ⟨hc16, ?_⟩⟩)))⟩
    · rw [e1]; exact decide_eq_false (by omega)
    · rw [e1]; show decide (sB (P c) > mn (mx a 0) 1048576) = false; exact decide_eq_false (by omega)
    · rw [e2]; show decide (((P c).length : Int) < 0) = false; exact decide_eq_false (by omega)
    · rw [e2]; show decide (((P c).length : Int) > mn (mx b 0) 32) = false; exact decide_eq_false (by omega)
    · rw [e1, e3]; show decide (mB (P c) > sB (P c)) = false; exact decide_eq_false (by omega)
    · refine biSt_le D a b hcp _ _ _ _ _ _ _ (by rw [wrap_i64 _ (by omega) (by omega)]; omega) ?_ trivial
      have : sumL (rowB (qOf (mn (mx a 0) 1048576) (mn (mx b 0) 32) pr P)) (c + 1) = IntKind.i64.wrap (sumL (rowB (qOf (mn (mx a 0) 1048576) (mn (mx b 0) 32) pr P)) c + (rowB (qOf (mn (mx a 0) 1048576) (mn (mx b 0) 32) pr P)).getD c 0) := by rw [sumL]
      rw [this, e1, row_get _ _ _ _ c hc16]
  · have h1 := of_decide_eq_false h1
    have hce : c = 16 := by omega
    subst hce
    refine ⟨_, rfl, rb _ _ _ (bne_eq (sum_16 _)) ⟨hkn, ?_⟩⟩
    exact bdSt_le D a b hcp (by rw [wrap_i64 _ (by omega) (by omega)]; omega) hq.symm hm trivial
def boundS : Spec := .q fun args blks K => match args, blks with
  | [.v (.int .i64 _), .v (.int .i64 _), .slc 0 0 n cp 4], [.ints false .i64 D] => ob (decide (D.length = n * 4) && decide (n ≤ cp)) (K (.v (.bool true)))
  | _, _ => False
set_option maxHeartbeats 2000000 in
theorem bound_ok : SpecOK Try.prog 4 boundS := by
  have hS : SpecsOK Try.prog bdSpecs := .cons awake49_ok (.cons new_ok (.cons chg_ok (.cons rfS_ok (.cons prS_ok (.cons used_ok (.cons tot_ok (.cons most_ok .nil)))))))
  refine q_roX mixed Try.func4 rfl rfl fun args blks K h => ?_
  split at h
  · rename_i a b n cp D
    rw [ob_iff, Bool.and_eq_true, decide_eq_true_eq, decide_eq_true_eq] at h
    obtain ⟨⟨hD, hcp⟩, hK⟩ := h
    refine ⟨_, rfl, hK, rfl, bdSpecs, bdI D a b n cp, hS, ?_⟩
    rw [bd_vf D a b n cp (fun s => s = .v (.bool true))]
    unfold bdF
    refine bc_mk (fun _ => rfl) fun hn => ?_
    have hn := of_decide_eq_false hn
    have hf0 : 0 ≤ mn (mx b 0) 32 := by unfold mn mx; (repeat' split) <;> omega
    refine bdSt_le D a b hcp rfl (by rw [runQ]) rfl ?_
    intro k hk
    refine bc_mk (fun h1 => ?_) fun _ => rfl
    have h1 := of_decide_eq_true h1
    have hkn : k < n := by omega
    refine ob_mk (by rw [Bool.true_and]; exact decide_eq_true h1) (ob_mk (decide_eq_true (by rw [Int.toNat_natCast]; omega)) ?_)
    obtain ⟨pr, T, hq, hr, hA⟩ := run_inv D a b k (by omega)
    obtain ⟨pr', T', g1, g2, g3, g4⟩ := alike_step hA (by omega) (D.getD (k * 4) 0) (D.getD (k * 4 + 1) 0) (D.getD (k * 4 + 2) 0) (D.getD (k * 4 + 3) 0)
    have hs1 : runQ D a b (k + 1) = qOf (mn (mx a 0) 1048576) (mn (mx b 0) 32) pr' (PT T') := by rw [runQ, hq, g1]
    have hidx : ∀ o, D.getD (0 + (k : Int).toNat * 4 + o) 0 = D.getD (k * 4 + o) 0 := fun o => by rw [Int.toNat_natCast, Nat.zero_add]
    rw [hidx 0, hidx 1, hidx 2, hidx 3, hq]
    rw [dqQ] at g1
    have hok := hA.vp.okq (pr := pr)
    have fin := fun (mv : List Nat) (hm : subB mv mvB = true) => bdR_mk hcp hkn g4.vp hs1 hf0 (by omega) (D.getD (k * 4 + 0) 0) (D.getD (k * 4 + 1) 0) (D.getD (k * 4 + 2) 0) (D.getD (k * 4 + 3) 0) hm ((SV.v (.bool false)) = .v (.bool true))
    refine bc_mk (fun h2 => ⟨_, rfl, hok, ?_⟩) fun h2 => bc_mk (fun h3 => ⟨_, rfl, hok, ?_⟩) fun h3 => bc_mk (fun h4 => ⟨_, rfl, hok, ?_⟩) fun h4 => ?_
    all_goals (simp only [beq_iff_eq, beq_eq_false_iff_ne, Nat.add_zero] at *)
    · rw [if_pos h2] at g1; rw [g1]; exact fin _ rfl
    · rw [if_neg h2, if_pos h3] at g1; rw [g1]; exact fin _ rfl
    · rw [if_neg h2, if_neg h3, if_pos h4] at g1; rw [g1]; exact fin _ rfl
    · rw [if_neg h2, if_neg h3, if_neg h4] at g1; rw [g1]; exact fin _ rfl
  · exact h.elim

end Go.Proofs.Ytahkneobmekokaa.Sx
