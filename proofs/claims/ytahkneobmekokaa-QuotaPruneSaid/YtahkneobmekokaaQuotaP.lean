/- The statement QuotaPlays. No condition. -/
import Derived.Test.YtahkneobmekokaaSx12
import Derived.Test.YtahkneobmekokaaProg
import Derived.Test.YtahkneobmekokaaBase
import Derived.Test.YtahkneobmekokaaSlices
import Derived.Test.YtahkneobmekokaaQuota0
import Derived.Test.YtahkneobmekokaaQuotaA
import Derived.Test.YtahkneobmekokaaQuotaB
import Derived.Test.YtahkneobmekokaaQuotaC
import Derived.Test.YtahkneobmekokaaQuotaD
import Derived.Test.YtahkneobmekokaaQuotaE
import Derived.Test.YtahkneobmekokaaQuotaF
import Derived.Test.YtahkneobmekokaaQuotaG
import Derived.Test.YtahkneobmekokaaQuotaH
import Derived.Test.YtahkneobmekokaaQuotaI
import Derived.Test.YtahkneobmekokaaQuotaJ
import Derived.Test.YtahkneobmekokaaQuotaL
import Derived.Test.YtahkneobmekokaaQuotaM
namespace Go.Proofs.Ytahkneobmekokaa.Sx
open Go Go.Proofs
set_option maxRecDepth 100000
set_option linter.unusedSimpArgs false
set_option linter.unusedVariables false

theorem alike_step {sp fi pr : Int} {T : List TF} {n : Nat} (h : Alike sp fi pr T n) (hn : n ≤ 1000) (d c e b : Int) :
    ∃ pr' T', dqQ (qOf sp fi pr (PT T)) d c e b = qOf sp fi pr' (PT T') ∧ dqR (rOf sp fi pr T) d c e b = rOf sp fi pr' T' ∧ dqB (qOf sp fi pr (PT T)) (rOf sp fi pr T) d c e b = true ∧ Alike sp fi pr' T' (n + 1) := by
  rw [dqQ, dqR, dqB]
  by_cases h0 : d = 0
  · obtain ⟨g1, T', g2, g3, g4, g5⟩ := h.charge hn c e b
    refine ⟨pr, T', ?_, ?_, ?_, g5⟩
    · rw [if_pos h0, g2]
    · rw [if_pos h0]
      show (⟨sp, fi, pr, rcN sp fi pr (fl3 T) T.length c e b, rcM sp fi pr (fl3 T) T.length c e b⟩ : RS) = _
      rw [g3, g4]; rfl
    · rw [if_pos h0, beq_iff_eq]; exact g1
  · rw [if_neg h0, if_neg h0, if_neg h0]
    by_cases h1 : d = 1
    · obtain ⟨g1, T', g2, g3, g4, g5⟩ := h.refund (pr := pr) c e b
      refine ⟨pr, T', ?_, ?_, ?_, g5⟩
      · rw [if_pos h1, g2]
      · rw [if_pos h1]
        show (⟨sp, fi, pr, rfN2 (fl3 T) T.length c e b, rfM2 (fl3 T) T.length c e b⟩ : RS) = _
        rw [g3, g4]; rfl
      · rw [if_pos h1, beq_iff_eq]; exact g1
    · rw [if_neg h1, if_neg h1, if_neg h1]
      by_cases h2 : d = 2
      · obtain ⟨g1, g2, g3, g4, g5⟩ := h.prune hn e
        refine ⟨mx pr e, kpT e T, ?_, ?_, ?_, g5⟩
        · rw [if_pos h2, g2]
        · rw [if_pos h2]
          show (⟨sp, fi, mx pr e, kR (fl3 T) e T.length, pR (fl3 T) e T.length⟩ : RS) = _
          rw [g3, g4]; rfl
        · rw [if_pos h2, beq_iff_eq]; exact g1
      · rw [if_neg h2, if_neg h2, if_neg h2]
        exact ⟨pr, T, rfl, rfl, rfl, h.vp, h.cl, by have := h.ln; omega⟩
theorem run_inv (D : List Int) (a b : Int) : ∀ k, k ≤ 101 → ∃ pr T, runQ D a b k = qOf (mn (mx a 0) 1048576) (mn (mx b 0) 32) pr (PT T) ∧ runR D a b k = rOf (mn (mx a 0) 1048576) (mn (mx b 0) 32) pr T ∧ Alike (mn (mx a 0) 1048576) (mn (mx b 0) 32) pr T k
  | 0, _ => ⟨-1, [], by rw [runQ]; exact (new_of a b).1, by rw [runR]; rfl, (new_of a b).2, fun t ht => by simp at ht, Nat.le_refl _⟩
  | k + 1, hk => by
    obtain ⟨pr, T, h1, h2, h3⟩ := run_inv D a b k (by omega)
    obtain ⟨pr', T', g1, g2, _, g4⟩ := alike_step h3 (by omega) (D.getD (k * 4) 0) (D.getD (k * 4 + 1) 0) (D.getD (k * 4 + 2) 0) (D.getD (k * 4 + 3) 0)
    exact ⟨pr', T', by rw [runQ, h1, g1], by rw [runR, h2, g2], g4⟩
theorem ltL (D : List Int) (q : QS) (r : RS) : tblLt 20 (tblL D q r) = true := by kernel_rfl
theorem lenL (D : List Int) (q : QS) (r : RS) : (tblL D q r).length = 20 := by kernel_rfl
theorem okST_app : ∀ {l m : List Blk}, okST l → okST m → okST (l ++ m)
  | [], m, _, h => h
  | b :: l, m, h, h' => by
    simp only [List.cons_append, okST] at h ⊢
    exact ⟨h.1, okST_app h.2 h'⟩
theorem okL (D : List Int) (q : QS) (r : RS) : okST (tblL D q r) := by
  simp only [tblL, okST, Blk.okS, SV.okSL, SV.okS]
  refine ⟨trivial, ⟨trivial, trivial, trivial, accO_ok q _⟩, okST_app (accB_ok true q _) ?_⟩
  simp only [okST, Blk.okS, SV.okSL, SV.okS]
  exact ⟨⟨trivial, trivial, trivial, Nat.le_refl _, trivial⟩, trivial, trivial⟩
theorem tblLeK_app : ∀ (l s t : List Blk) (K : Prop), okST l → tblLeK s t K → tblLeK (l ++ s) (l ++ t) K
  | [], s, t, K, _, h => h
  | b :: l, s, t, K, ho, h => by
    simp only [okST] at ho
    simp only [List.cons_append, tblLeK]
    exact blkLeK_self b _ ho.1 (tblLeK_app l s t K ho.2 h)
theorem plEnv_le (a b : Int) {n cp : Nat} (hc : n ≤ cp) {k k' : Int} (hk : k = k') {K : Prop} (h : K) : envLeK (plEnv a b n cp k) (plEnv a b n cp k') K := by
  subst hk
  simp only [plEnv, envLeK, look, Nat.reduceBEq, Nat.beq_eq_true_eq]
  have key : ∀ (s : SV) (K : Prop), s.okS → K → SV.leK s s K := leK_self
  exact key _ _ (by simp [SV.okS]) (key _ _ (by simp [SV.okS]) (key _ _ (by simp [SV.okS]) (key _ _ (by simp only [SV.okS]; exact hc) (key _ _ (by simp [SV.okS]) (key _ _ (by simp [SV.okS]) h)))))
theorem stLe_mk {st st' : St} {K : Prop} (h1 : st.nt = st'.nt) (h2 : st.n0 = st'.n0) (h3 : st'.n0 ≤ st'.tbl.length) (h4 : subB st.mv st'.mv = true) (h5 : (envLt st'.tbl.length st'.env && tblLt st'.tbl.length st'.tbl) = true) (h : envLeK st.env st'.env (tblLeK st.tbl st'.tbl K)) : stLe st st' K := by
  unfold stLe
  rw [h1, h2, Nat.beq_refl, Nat.beq_refl, h4, h5, show Nat.ble st'.n0 st'.tbl.length = true from Nat.ble_eq.mpr h3]
  exact h
theorem plSt_le (D : List Int) (a b : Int) {n cp : Nat} (hc : n ≤ cp) {k k' : Int} (hk : k = k') {q q' : QS} (hq : q = q') {r r' : RS} (hr : r = r') {K : Prop} (h : K) : stLe (plSt D a b n cp k q r) (plSt D a b n cp k' q' r') K := by
  subst hq hr
  refine stLe_mk rfl rfl (by show 1 ≤ (tblL D q r).length; rw [lenL]; omega) rfl ?_ (plEnv_le a b hc hk (tblLeK_self _ _ (okL D q r) h))
  show (envLt (tblL D q r).length (plEnv a b n cp k') && tblLt (tblL D q r).length (tblL D q r)) = true
  rw [lenL, ltL]; rfl
def playsS : Spec := .q fun args blks K => match args, blks with
  | [.v (.int .i64 _), .v (.int .i64 _), .slc 0 0 n cp 4], [.ints false .i64 D] => ob (decide (D.length = n * 4) && decide (n ≤ cp)) (K (.v (.bool true)))
  | _, _ => False
theorem bne_eq {x y : Int} (h : x = y) : (x != y) = false := by subst h; simp
set_option maxHeartbeats 2000000 in
theorem plays_ok : SpecOK Try.prog 3 playsS := by
  have hS : SpecsOK Try.prog plSpecs := .cons awake49_ok (.cons new_ok (.cons newR_ok (.cons doS_ok (.cons used_ok (.cons usedR_ok (.cons tot_ok (.cons totR_ok (.cons most_ok (.cons mosR_ok .nil)))))))))
  refine q_roX mixed Try.func3 rfl rfl fun args blks K h => ?_
  split at h
  · rename_i a b n cp D
    rw [ob_iff, Bool.and_eq_true, decide_eq_true_eq, decide_eq_true_eq] at h
    obtain ⟨⟨hD, hcp⟩, hK⟩ := h
    refine ⟨_, rfl, hK, rfl, plSpecs, plI D a b n cp, hS, ?_⟩
    rw [pl_vf D a b n cp (fun s => s = .v (.bool true))]
    unfold plF
    refine bc_mk (fun _ => rfl) fun hn => ?_
    have hn := of_decide_eq_false hn
    have hr0 : runR D a b 0 = ⟨mn (mx a 0) 1048576, mn (mx b 0) 32, -1, 0, []⟩ := by rw [runR]
    have hq0 : runQ D a b 0 = newQ a b := by rw [runQ]
    refine stLe_mk rfl rfl (by show 1 ≤ (tblL D _ _).length; rw [lenL]; omega) rfl ?_ ?_
    · show (envLt (tblL D _ _).length (plEnv a b n cp _) && tblLt (tblL D _ _).length (tblL D _ _)) = true
      rw [lenL, ltL]; rfl
    refine plEnv_le a b hcp rfl ?_
    show tblLeK _ (tblL D (runQ D a b 0) (runR D a b 0)) _
    rw [hr0, hq0]
    unfold tblL
    simp only [tblLeK]
    refine blkLeK_self _ _ trivial (blkLeK_self _ _ ?_ (tblLeK_app _ _ _ _ (accB_ok true _ _) ?_))
    · simp only [Blk.okS, SV.okSL, SV.okS]; exact ⟨trivial, trivial, trivial, accO_ok _ _⟩
    simp only [tblLeK, blkLeK, preLeK, SV.leK, emptyB]
    refine ob_mk rfl (veqK_self _ (veqK_self _ (veqK_self _ ?_)))
    simp only [isNilS]
    refine ob_mk rfl (ob_mk rfl ⟨ob_mk rfl trivial, ?_⟩)
    intro k hk
    refine bc_mk (fun h1 => ?_) fun _ => (by first | exact trivial | rfl)
    have h1 := of_decide_eq_true h1
    have hkn : k < n := by omega
    have hcond : (true && decide ((k : Int) < (n : Int))) = true := by rw [Bool.true_and]; exact decide_eq_true h1
    have hb4 : decide (0 + (k : Int).toNat * 4 + 4 ≤ D.length) = true := decide_eq_true (by rw [Int.toNat_natCast]; omega)
    have hb1 : decide (0 + (k : Int).toNat * 4 + 1 < D.length) = true := decide_eq_true (by rw [Int.toNat_natCast]; omega)
    refine ob_mk hcond ?_
    have all : ∀ L : Prop, L → plT D k L := fun L hL => by
      unfold plT
      have e := fun {X : Prop} (hX : X) => ob_mk hb4 hX
      exact ⟨⟨e ⟨hL, hL⟩, e hL⟩, e ⟨⟨hL, hL⟩, hL⟩, e hL, e hL⟩
    apply all
    obtain ⟨pr, T, hq, hr, hA⟩ := run_inv D a b k (by omega)
    obtain ⟨pr', T', g1, g2, g3, g4⟩ := alike_step hA (by omega) (D.getD (k * 4) 0) (D.getD (k * 4 + 1) 0) (D.getD (k * 4 + 2) 0) (D.getD (k * 4 + 3) 0)
    have hln := hA.ln
    have hln' := g4.ln
    have hidx : ∀ o, D.getD (0 + (k : Int).toNat * 4 + o) 0 = D.getD (k * 4 + o) 0 := fun o => by rw [Int.toNat_natCast, Nat.zero_add]
    rw [hidx 0, hidx 1, hidx 2, hidx 3]
    have hu := g4.used (by omega) (D.getD (k * 4 + 1) 0)
    have ht := g4.total
    have hs1 : runQ D a b (k + 1) = qOf (mn (mx a 0) 1048576) (mn (mx b 0) 32) pr' (PT T') := by rw [runQ, hq, g1]
    have hs2 : runR D a b (k + 1) = rOf (mn (mx a 0) 1048576) (mn (mx b 0) 32) pr' T' := by rw [runR, hr, g2]
    unfold plL
    rw [hq, hr]
    refine ⟨qOf (mn (mx a 0) 1048576) (mn (mx b 0) 32) pr (PT T), fl3 T, ⟨rfl, hA.vp.okq, fl3_len T, Nat.le_refl _, by show T.length ≤ 1000; omega⟩, ?_⟩
    rw [show dqR ⟨(rOf (mn (mx a 0) 1048576) (mn (mx b 0) 32) pr T).sp, (rOf (mn (mx a 0) 1048576) (mn (mx b 0) 32) pr T).fi, (rOf (mn (mx a 0) 1048576) (mn (mx b 0) 32) pr T).pr, (rOf (mn (mx a 0) 1048576) (mn (mx b 0) 32) pr T).m, fl3 T⟩ (D.getD (k * 4 + 0) 0) (D.getD (k * 4 + 1) 0) (D.getD (k * 4 + 2) 0) (D.getD (k * 4 + 3) 0) = rOf (mn (mx a 0) 1048576) (mn (mx b 0) 32) pr' T' from g2,
      show dqB (qOf (mn (mx a 0) 1048576) (mn (mx b 0) 32) pr (PT T)) ⟨(rOf (mn (mx a 0) 1048576) (mn (mx b 0) 32) pr T).sp, (rOf (mn (mx a 0) 1048576) (mn (mx b 0) 32) pr T).fi, (rOf (mn (mx a 0) 1048576) (mn (mx b 0) 32) pr T).pr, (rOf (mn (mx a 0) 1048576) (mn (mx b 0) 32) pr T).m, fl3 T⟩ (D.getD (k * 4 + 0) 0) (D.getD (k * 4 + 1) 0) (D.getD (k * 4 + 2) 0) (D.getD (k * 4 + 3) 0) = true from g3,
      show dqQ (qOf (mn (mx a 0) 1048576) (mn (mx b 0) 32) pr (PT T)) (D.getD (k * 4 + 0) 0) (D.getD (k * 4 + 1) 0) (D.getD (k * 4 + 2) 0) (D.getD (k * 4 + 3) 0) = qOf (mn (mx a 0) 1048576) (mn (mx b 0) 32) pr' (PT T') from g1]
    rw [hs1, hs2]
    have rok : ∀ X : Prop, X → rOk (rOf (mn (mx a 0) 1048576) (mn (mx b 0) 32) pr' T') X := fun X hX => by
      refine ob_mk ?_ hX
      simp only [Bool.and_eq_true, decide_eq_true_eq]
      exact ⟨fl3_len T', Nat.le_refl _, by show T'.length ≤ 100000; omega⟩
    have rb : ∀ (x : Bool) (p q : Prop), x = false → q → bc x p q := fun x p q hx hq => by rw [hx]; exact hq
    unfold plR
    refine ob_mk hcond (ob_mk hb1 ⟨_, rfl, ob_mk hcond (ob_mk hb1 (rok _ (rb _ _ _ rfl (rb _ _ _ (bne_eq hu.1) (rb _ _ _ (bne_eq hu.2.1) ⟨_, rfl, rok _ (rb _ _ _ (bne_eq ht) (ob_mk hcond (ob_mk hb1 ⟨_, rfl, g4.vp.okq, ob_mk hcond (ob_mk hb1 (rok _ (rb _ _ _ (bne_eq hu.2.2) ⟨hkn, ?_⟩)))⟩)))⟩)))))⟩)
    exact plSt_le D a b hcp (by rw [wrap_i64 _ (by omega) (by omega)]; omega) rfl rfl trivial
  · exact h.elim

end Go.Proofs.Ytahkneobmekokaa.Sx
