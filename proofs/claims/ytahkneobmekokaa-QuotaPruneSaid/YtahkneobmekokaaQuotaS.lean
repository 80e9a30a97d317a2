/- The statement QuotaBack. No condition. -/
import Derived.Test.YtahkneobmekokaaSx12
import Derived.Test.YtahkneobmekokaaProg
import Derived.Test.YtahkneobmekokaaBase
import Derived.Test.YtahkneobmekokaaSlices
import Derived.Test.YtahkneobmekokaaQuota0
import Derived.Test.YtahkneobmekokaaQuotaA
import Derived.Test.YtahkneobmekokaaQuotaB
import Derived.Test.YtahkneobmekokaaQuotaC
import Derived.Test.YtahkneobmekokaaQuotaD
import Derived.Test.YtahkneobmekokaaQuotaE
import Derived.Test.YtahkneobmekokaaQuotaF
import Derived.Test.YtahkneobmekokaaQuotaG
import Derived.Test.YtahkneobmekokaaQuotaH
import Derived.Test.YtahkneobmekokaaQuotaI
import Derived.Test.YtahkneobmekokaaQuotaJ
import Derived.Test.YtahkneobmekokaaQuotaL
import Derived.Test.YtahkneobmekokaaQuotaM
import Derived.Test.YtahkneobmekokaaQuotaP
import Derived.Test.YtahkneobmekokaaQuotaQ
namespace Go.Proofs.Ytahkneobmekokaa.Sx
open Go Go.Proofs
set_option maxRecDepth 100000
set_option linter.unusedSimpArgs false
set_option linter.unusedVariables false

def accK (q : QS) : List Nat → List SV
  | [] => []
  | i :: r => .slc (i + 3) 0 (q.n i) (q.n i) 2 :: .v (.int .i64 (q.B i)) :: accK q r
def tblK (D E : List Int) (q : QS) : List Blk := .ints false .i64 D :: .ints true .i64 E :: .cells true (.v (.int .i64 q.sp) :: .v (.int .i64 q.fi) :: .v (.int .i64 q.pr) :: accK q r16) :: accB true q r16
def mvK : List Nat := [3, 4, 5, 6, 7, 8, 9, 10, 11, 12, 13, 14, 15, 16, 17, 18]
def dqK (q : QS) (d c e b : Int) : QS := if d = 2 then prR q e else chgR q c e b
def runK (D : List Int) : Nat → QS
  | 0 => newQ 1000 8
  | k + 1 => dqK (runK D k) (D.getD (k * 4) 0) (D.getD (k * 4 + 1) 0) (D.getD (k * 4 + 2) 0) (D.getD (k * 4 + 3) 0)
def bkEnv (n cp : Nat) (k : Int) : Env := [(6, .v (.int .i64 k)), (0, .slc 0 0 n cp 4), (3, .ptr 1 0), (5, .ptr 2 0)]
def bkSt (D E : List Int) (n cp : Nat) (k : Int) (q : QS) (mv : List Nat) : St := ⟨bkEnv n cp k, 149, tblK D E q, mv, 1⟩
def bkI (D E : List Int) (n cp : Nat) : Nat → St → LK := fun id st => match id with
  | 0 => .inv n fun k => bkSt D E n cp (k : Int) (runK D k) mvK
  | _ => .unroll 20
def bkSpecs : Specs := [(8, closedS), (9, newS), (18, chgS), (19, rfS), (20, prS), (12, usedS), (14, totS), (16, mostS)]
/-- As before? -/
def bkW (s : QS) (d1 u n t m : Int) (T F : Prop) : Prop :=
  ∃ q8, tblQ false s = tblQ false q8 ∧ bc (useB q8 d1 == u) (bc (bif true then useN q8 d1 == n else false) (∃ q9, tblQ false s = tblQ false q9 ∧ bc (bif true then totW q9 == t else false)
    (∃ q10, tblQ false s = tblQ false q10 ∧ okQ q10 ∧ bc (bif true then mosT q10 d1 == m else false) T F) F) F) F
def bkE (q : QS) (d1 d2 d3 : Int) (T F : Prop) : Prop :=
  ∃ q1, tblQ false q = tblQ false q1 ∧ ∃ q2, tblQ false q = tblQ false q2 ∧ ∃ q3, tblQ false q = tblQ false q3 ∧ okQ q3 ∧ ∃ q4, tblQ true q = tblQ true q4 ∧ okQ q4 ∧
    bc (chgE q4 d1 d2 d3 == 0)
      (∃ q5, tblQ false (chgR q4 d1 d2 d3) = tblQ false q5 ∧ bc (useB q5 d1 != IntKind.i64.wrap (useB q1 d1 + d3)) F (bc (bif false then true else useN q5 d1 != IntKind.i64.wrap (useN q1 d1 + 1)) F
        (∃ q6, tblQ false (chgR q4 d1 d2 d3) = tblQ false q6 ∧ bc (bif false then true else totW q6 != IntKind.i64.wrap (totW q2 + d3)) F
          (∃ q7, tblQ true (chgR q4 d1 d2 d3) = tblQ true q7 ∧ okQ q7 ∧ bc (bif false then true else rfE q7 d1 d2 d3 != 0) F
            (bkW (rfR q7 d1 d2 d3) d1 (useB q1 d1) (useN q1 d1) (totW q2) (mosT q3 d1) T F)))))
      (bkW (chgR q4 d1 d2 d3) d1 (useB q1 d1) (useN q1 d1) (totW q2) (mosT q3 d1) T F)
def bkF (D : List Int) (d0 d1 d2 d3 : Int) (n cp : Nat) (K : SV → Prop) : Prop :=
  bc (decide ((n : Int) > 100)) (K (.v (.bool true)))
    (stLe (bkSt D [d0, d1, d2, d3] n cp 0 (newQ 1000 8) []) (bkSt D [d0, d1, d2, d3] n cp ((0 : Nat) : Int) (runK D 0) mvK)
      (∀ k, k ≤ n → bc (decide ((k : Int) < (n : Int)))
        (ob (true && decide ((k : Int) < (n : Int))) (ob (decide (0 + (k : Int).toNat * 4 + 0 < D.length)) (bc (D.getD (0 + (k : Int).toNat * 4 + 0) 0 == 2)
          (ob (true && decide ((k : Int) < (n : Int))) (ob (decide (0 + (k : Int).toNat * 4 + 2 < D.length))
            (∃ q', tblQ true (runK D k) = tblQ true q' ∧ okQ q' ∧ (k < n ∧ stLe (bkSt D [d0, d1, d2, d3] n cp (IntKind.i64.wrap ((k : Int) + 1)) (prR q' (D.getD (0 + (k : Int).toNat * 4 + 2) 0)) (mvK ++ mvK)) (bkSt D [d0, d1, d2, d3] n cp ((k + 1 : Nat) : Int) (runK D (k + 1)) mvK) True))))
          (ob (true && decide ((k : Int) < (n : Int))) (ob (decide (0 + (k : Int).toNat * 4 + 1 < D.length)) (ob (true && decide ((k : Int) < (n : Int))) (ob (decide (0 + (k : Int).toNat * 4 + 2 < D.length)) (ob (true && decide ((k : Int) < (n : Int))) (ob (decide (0 + (k : Int).toNat * 4 + 3 < D.length))
            (∃ q', tblQ true (runK D k) = tblQ true q' ∧ okQ q' ∧ (k < n ∧ stLe (bkSt D [d0, d1, d2, d3] n cp (IntKind.i64.wrap ((k : Int) + 1)) (chgR q' (D.getD (0 + (k : Int).toNat * 4 + 1) 0) (D.getD (0 + (k : Int).toNat * 4 + 2) 0) (D.getD (0 + (k : Int).toNat * 4 + 3) 0)) (mvK ++ mvK)) (bkSt D [d0, d1, d2, d3] n cp ((k + 1 : Nat) : Int) (runK D (k + 1)) mvK) True)))))))))))
        (bkE (runK D k) d1 d2 d3 (K (.v (.bool true))) (K (.v (.bool false))))))
theorem bk_vf (D : List Int) (d0 d1 d2 d3 : Int) (n cp : Nat) (K : SV → Prop) : (vf Try.prog bkSpecs (bkI D [d0, d1, d2, d3] n cp) Try.f5 [.slc 0 0 n cp 4, .agg [.v (.int .i64 d0), .v (.int .i64 d1), .v (.int .i64 d2), .v (.int .i64 d3)]] [.ints false .i64 D] fun s _ _ => K s) = bkF D d0 d1 d2 d3 n cp K := by kernel_rfl
theorem ltK (D E : List Int) (q : QS) : tblLt 19 (tblK D E q) = true := by kernel_rfl
theorem lenK (D E : List Int) (q : QS) : (tblK D E q).length = 19 := by kernel_rfl
theorem accK_ok (q : QS) : ∀ r, SV.okSL (accK q r)
  | [] => by simp only [accK, SV.okSL]
  | i :: r => by
    simp only [accK, SV.okSL, SV.okS]
    exact ⟨Nat.le_refl _, trivial, accK_ok q r⟩
theorem okK (D E : List Int) (q : QS) : okST (tblK D E q) := by
  simp only [tblK, okST, Blk.okS, SV.okSL, SV.okS]
  exact ⟨trivial, trivial, ⟨trivial, trivial, trivial, accK_ok q _⟩, accB_ok true q _⟩
theorem bkEnv_le {n cp : Nat} (hc : n ≤ cp) {k k' : Int} (hk : k = k') {K : Prop} (h : K) : envLeK (bkEnv n cp k) (bkEnv n cp k') K := by
  subst hk
  simp only [bkEnv, envLeK, look, Nat.reduceBEq, Nat.beq_eq_true_eq]
  have key : ∀ (s : SV) (K : Prop), s.okS → K → SV.leK s s K := leK_self
  exact key _ _ (by simp [SV.okS]) (key _ _ (by simp only [SV.okS]; exact hc) (key _ _ (by simp [SV.okS]) (key _ _ (by simp [SV.okS]) h)))
theorem bkSt_le (D E : List Int) {n cp : Nat} (hc : n ≤ cp) {k k' : Int} (hk : k = k') {q q' : QS} (hq : q = q') {m m' : List Nat} (hm : subB m m' = true) {K : Prop} (h : K) : stLe (bkSt D E n cp k q m) (bkSt D E n cp k' q' m') K := by
  subst hq
  refine stLe_mk rfl rfl (by show 1 ≤ (tblK D E q).length; rw [lenK]; omega) hm ?_ (bkEnv_le hc hk (tblLeK_self _ _ (okK D E q) h))
  show (envLt (tblK D E q).length (bkEnv n cp k') && tblLt (tblK D E q).length (tblK D E q)) = true
  rw [lenK, ltK]; rfl
theorem totP_up (P : Nat → List PF) (c : Nat) (l : List PF) : ∀ n, totP (upP P c l) n = totP P n + (if c < n then sB l - sB (P c) else 0)
  | 0 => by simp [totP]
  | n + 1 => by
    have ih := totP_up P c l n
    simp only [totP, ih]
    by_cases h : n = c
    · subst h; rw [upP_c, if_neg (Nat.lt_irrefl _), if_pos (Nat.lt_succ_self _)]; omega
    · rw [upP_ne _ _ h]
      by_cases h2 : c < n
      · rw [if_pos h2, if_pos (by omega)]; omega
      · rw [if_neg h2, if_neg (by omega)]; omega
theorem mB_perm {l m : List PF} (h : l.Perm m) : mB l = mB m := by
  induction h with
  | nil => rfl
  | cons x _ ih => simp only [mB, ih]
  | swap x y l => simp only [mB]; omega
  | trans _ _ h1 h2 => rw [h1, h2]
theorem useB_of (sp fi pr : Int) (P : Nat → List PF) {c : Int} (h : outC c = false) : useB (qOf sp fi pr P) c = sB (P c.toNat) := by rw [useB, if_neg (by rw [h]; decide)]; rfl
theorem useN_of (sp fi pr : Int) (P : Nat → List PF) {c : Int} (h : outC c = false) : useN (qOf sp fi pr P) c = ((P c.toNat).length : Int) := by rw [useN, if_neg (by rw [h]; decide)]; rfl
theorem mosT_of (sp fi pr : Int) (P : Nat → List PF) {c : Int} (h : outC c = false) : mosT (qOf sp fi pr P) c = mB (P c.toNat) := by
  rw [mosT, if_neg (by rw [h]; decide)]
  show mostG (fl2 (P c.toNat)) (P c.toNat).length = _
  rw [mostG_of _ _ (Nat.le_refl _), List.take_length]
theorem outC_lt {c : Int} (h : outC c = false) : c.toNat < 16 := by
  rw [outC, Bool.or_eq_false_iff, decide_eq_false_iff_not, decide_eq_false_iff_not] at h; omega
theorem bkW_same {q : QS} (hq : okQ q) {d1 u n t m : Int} {T F : Prop} (hu : useB q d1 = u) (hn : useN q d1 = n) (ht : totW q = t) (hm : mosT q d1 = m) (hT : T) : bkW q d1 u n t m T F := by
  have rt : ∀ (x : Bool) (p q : Prop), x = true → p → bc x p q := fun x p q hx hq => by rw [hx]; exact hq
  unfold bkW
  refine ⟨q, rfl, rt _ _ _ (beq_iff_eq.2 hu) (rt _ _ _ (beq_iff_eq.2 hn) ⟨q, rfl, rt _ _ _ (beq_iff_eq.2 ht) ⟨q, rfl, hq, rt _ _ _ (beq_iff_eq.2 hm) hT⟩⟩)⟩
theorem bkE_mk {sp fi pr : Int} {P : Nat → List PF} (hV : VP sp fi P) (d1 d2 d3 : Int) {T F : Prop} (hT : T) : bkE (qOf sp fi pr P) d1 d2 d3 T F := by
  have rb : ∀ (x : Bool) (p q : Prop), x = false → q → bc x p q := fun x p q hx hq => by rw [hx]; exact hq
  obtain ⟨c1, c2⟩ := chgR_of (pr := pr) hV d1 d2 d3
  have hE := chgE_of (pr := pr) hV d1 d2 d3
  unfold bkE
  refine ⟨_, rfl, _, rfl, _, rfl, hV.okq, _, rfl, hV.okq, ?_⟩
  refine bc_mk (fun h => ?_) fun h => ?_
  · rw [beq_iff_eq, hE] at h
    obtain ⟨ho, g1, g2, g3, g4, g5, _⟩ := cE_0 h
    have hc := outC_lt ho
    have hP' : cP sp fi pr P d1 d2 d3 = upP P d1.toNat (P d1.toNat ++ [(d2, d3)]) := by rw [cP, if_pos h]
    rw [hP'] at c1 c2
    rw [c1]
    have hn := hV.nn d1.toNat
    have hs := hV.sum d1.toNat
    have h1 := hV.sp1
    have h2 := hV.short d1.toNat
    have eS : sB (P d1.toNat ++ [(d2, d3)]) = sB (P d1.toNat) + d3 := by rw [sB_app]; simp [sB]
    have eL : (P d1.toNat ++ [(d2, d3)]).length = (P d1.toNat).length + 1 := by simp
    have t1 := tot_of (pr := pr) hV
    have t2 := tot_of (pr := pr) c2
    have tb := totP_b hV 16
    rw [totP_up, if_pos hc, eS] at t2
    have hmem : (d2, d3) ∈ P d1.toNat ++ [(d2, d3)] := by simp
    refine ⟨_, rfl, rb _ _ _ (bne_eq ?_) (rb _ _ _ (bne_eq ?_) ⟨_, rfl, rb _ _ _ (bne_eq ?_) ⟨_, rfl, c2.okq, rb _ _ _ (bne_eq ?_) ?_⟩⟩)⟩
    · rw [useB_of _ _ _ _ ho, useB_of _ _ _ _ ho, upP_c, eS, wrap_i64 _ (by omega) (by omega)]
    · rw [useN_of _ _ _ _ ho, useN_of _ _ _ _ ho, upP_c, eL, wrap_i64 _ (by omega) (by omega)]; omega
    · rw [t2, t1, wrap_i64 _ (by omega) (by omega)]; omega
    · rw [rfE_of c2, fE, if_neg, upP_c, if_pos hmem]
      rw [not_or]
      refine ⟨by rw [ho]; decide, ?_⟩
      simp only [okF, g1, g2, g3, decide_true, Bool.and_self]
      decide
    · obtain ⟨r1, r2⟩ := rfR_of (pr := pr) c2 d1 d2 d3
      have hf : fE (upP P d1.toNat (P d1.toNat ++ [(d2, d3)])) d1 d2 d3 = 0 := by
        rw [fE, if_neg, upP_c, if_pos hmem]
        rw [not_or]
        refine ⟨by rw [ho]; decide, ?_⟩
        simp only [okF, g1, g2, g3, decide_true, Bool.and_self]
        decide
      have hfP : fP (upP P d1.toNat (P d1.toNat ++ [(d2, d3)])) d1 d2 d3 = upP (upP P d1.toNat (P d1.toNat ++ [(d2, d3)])) d1.toNat ((P d1.toNat ++ [(d2, d3)]).erase (d2, d3)) := by rw [fP, if_pos hf, upP_c]
      rw [hfP] at r1 r2
      rw [r1]
      have t3 := tot_of (pr := pr) r2
      have e1 := sB_erase _ _ hmem
      have e2 : ((P d1.toNat ++ [(d2, d3)]).erase (d2, d3)).length = (P d1.toNat ++ [(d2, d3)]).length - 1 := List.length_erase_of_mem hmem
      simp only at e1
      rw [totP_up, totP_up, if_pos hc, upP_c, e1, if_pos hc, eS] at t3
      have hperm : ((P d1.toNat ++ [(d2, d3)]).erase (d2, d3)).Perm (P d1.toNat) := by
        have := (List.perm_append_comm (l₁ := P d1.toNat) (l₂ := [(d2, d3)])).erase (d2, d3)
        simpa using this
      refine bkW_same r2.okq ?_ ?_ ?_ ?_ hT
      · rw [useB_of _ _ _ _ ho, useB_of _ _ _ _ ho, upP_c, e1, eS]; omega
      · rw [useN_of _ _ _ _ ho, useN_of _ _ _ _ ho, upP_c, e2, eL]; rfl
      · rw [t3, t1]; omega
      · rw [mosT_of _ _ _ _ ho, mosT_of _ _ _ _ ho, upP_c, mB_perm hperm]
  · rw [beq_eq_false_iff_ne, hE] at h
    have hP' : cP sp fi pr P d1 d2 d3 = P := by rw [cP, if_neg h]
    rw [hP'] at c1 c2
    rw [c1]
    exact bkW_same hV.okq rfl rfl rfl rfl hT
theorem runK_inv (D : List Int) : ∀ k, ∃ pr P, runK D k = qOf 1000 8 pr P ∧ VP 1000 8 P
  | 0 => by
    obtain ⟨h1, h2⟩ := new_of 1000 8
    rw [show mn (mx 1000 0) 1048576 = 1000 by decide, show mn (mx 8 0) 32 = 8 by decide] at h1 h2
    exact ⟨-1, fun _ => [], by rw [runK]; exact h1, h2⟩
  | k + 1 => by
    obtain ⟨pr, P, h1, h2⟩ := runK_inv D k
    rw [runK, h1, dqK]
    split
    · exact ⟨_, _, prR_of h2 _, h2.pr _ _⟩
    · obtain ⟨g1, g2⟩ := chgR_of (pr := pr) h2 (D.getD (k * 4 + 1) 0) (D.getD (k * 4 + 2) 0) (D.getD (k * 4 + 3) 0)
      exact ⟨_, _, g1, g2⟩
def backS : Spec := .q fun args blks K => match args, blks with
  | [.slc 0 0 n cp 4, .agg [.v (.int .i64 _), .v (.int .i64 _), .v (.int .i64 _), .v (.int .i64 _)]], [.ints false .i64 D] => ob (decide (D.length = n * 4) && decide (n ≤ cp)) (K (.v (.bool true)))
  | _, _ => False
set_option maxHeartbeats 2000000 in
theorem back_ok : SpecOK Try.prog 5 backS := by
  have hS : SpecsOK Try.prog bkSpecs := .cons awake49_ok (.cons new_ok (.cons chg_ok (.cons rfS_ok (.cons prS_ok (.cons used_ok (.cons tot_ok (.cons most_ok .nil)))))))
  refine q_roX mixed Try.func5 rfl rfl fun args blks K h => ?_
  split at h
  · rename_i n cp d0 d1 d2 d3 D
    rw [ob_iff, Bool.and_eq_true, decide_eq_true_eq, decide_eq_true_eq] at h
    obtain ⟨⟨hD, hcp⟩, hK⟩ := h
    refine ⟨_, rfl, hK, rfl, bkSpecs, bkI D [d0, d1, d2, d3] n cp, hS, ?_⟩
    rw [bk_vf D d0 d1 d2 d3 n cp (fun s => s = .v (.bool true))]
    unfold bkF
    refine bc_mk (fun _ => rfl) fun hn => ?_
    have hn := of_decide_eq_false hn
    refine bkSt_le D _ hcp rfl (by rw [runK]) rfl ?_
    intro k hk
    obtain ⟨pr, P, hq, hV⟩ := runK_inv D k
    refine bc_mk (fun h1 => ?_) fun _ => ?_
    · have h1 := of_decide_eq_true h1
      have hkn : k < n := by omega
      have hcond : (true && decide ((k : Int) < (n : Int))) = true := by rw [Bool.true_and]; exact decide_eq_true h1
      have hb : ∀ o, o < 4 → decide (0 + (k : Int).toNat * 4 + o < D.length) = true := fun o ho => decide_eq_true (by rw [Int.toNat_natCast]; omega)
      have hidx : ∀ o, D.getD (0 + (k : Int).toNat * 4 + o) 0 = D.getD (k * 4 + o) 0 := fun o => by rw [Int.toNat_natCast, Nat.zero_add]
      have hs1 : runK D (k + 1) = dqK (runK D k) (D.getD (k * 4) 0) (D.getD (k * 4 + 1) 0) (D.getD (k * 4 + 2) 0) (D.getD (k * 4 + 3) 0) := by rw [runK]
      rw [dqK] at hs1
      refine ob_mk hcond (ob_mk (hb 0 (by omega)) (bc_mk (fun h2 => ob_mk hcond (ob_mk (hb 2 (by omega)) ?_)) fun h2 => ob_mk hcond (ob_mk (hb 1 (by omega)) (ob_mk hcond (ob_mk (hb 2 (by omega)) (ob_mk hcond (ob_mk (hb 3 (by omega)) ?_)))))))
      · rw [hidx 0, beq_iff_eq, Nat.add_zero] at h2
        rw [if_pos h2, hq] at hs1
        rw [hq, hidx 2]
        exact ⟨_, rfl, hV.okq, hkn, bkSt_le D _ hcp (by rw [wrap_i64 _ (by omega) (by omega)]; omega) hs1.symm rfl trivial⟩
      · rw [hidx 0, beq_eq_false_iff_ne, Nat.add_zero] at h2
        rw [if_neg h2, hq] at hs1
        rw [hq, hidx 1, hidx 2, hidx 3]
        exact ⟨_, rfl, hV.okq, hkn, bkSt_le D _ hcp (by rw [wrap_i64 _ (by omega) (by omega)]; omega) hs1.symm rfl trivial⟩
    · rw [hq]; exact bkE_mk hV _ _ _ rfl
  · exact h.elim

end Go.Proofs.Ytahkneobmekokaa.Sx
