/- The quota: contracts of what is charged, refunded, told. No condition. -/
import Derived.Test.YtahkneobmekokaaSx12
import Derived.Test.YtahkneobmekokaaProg
import Derived.Test.YtahkneobmekokaaBase
import Derived.Test.YtahkneobmekokaaQuota0
import Derived.Test.YtahkneobmekokaaQuotaA
import Derived.Test.YtahkneobmekokaaQuotaB
namespace Go.Proofs.Ytahkneobmekokaa.Sx
open Go Go.Proofs
set_option maxRecDepth 100000
set_option linter.unusedSimpArgs false
set_option linter.unusedVariables false

theorem normQ (w : Bool) (q : QS) : normB (tblQ w q) = tblQ w q := by kernel_rfl
theorem ltQ (w : Bool) (q : QS) : tblLt 17 (tblQ w q) = true := by kernel_rfl
theorem lenQ (w : Bool) (q : QS) : (tblQ w q).length = 17 := by kernel_rfl
theorem roQ (q : QS) : allRo (tblQ false q) = true := by kernel_rfl
theorem inC {c : Int} (h : ¬ outC c = true) : ∃ k : Nat, c = k ∧ k < 16 := by
  rw [outC, Bool.or_eq_true, decide_eq_true_eq, decide_eq_true_eq] at h
  exact ⟨c.toNat, by omega, by omega⟩
theorem outC_nat {k : Nat} (h : k < 16) : outC (k : Int) = false := by
  rw [outC, Bool.or_eq_false_iff, decide_eq_false_iff_not, decide_eq_false_iff_not]; omega
theorem qEnd {K : SV → List Blk → List Nat → Prop} {q : QS} {x : Value} {m : List Nat} (hm : subB m mvQ = true) (h : K (.v x) (tblQ true q) mvQ) :
    ∃ m', ((SV.lt 17 (.v x) && tblLt 17 (tblQ true q)) && (Nat.beq (tblQ true q).length 17 && subB m m')) = true ∧ K (.v x) (tblQ true q) m' :=
  ⟨mvQ, by rw [ltQ, lenQ, hm]; rfl, h⟩
theorem sub_c {c : Nat} (h : c < 16) : subB [c + 1] mvQ = true := by
  match c, h with
  | 0, _ | 1, _ | 2, _ | 3, _ | 4, _ | 5, _ | 6, _ | 7, _ | 8, _ | 9, _ | 10, _ | 11, _ | 12, _ | 13, _ | 14, _ | 15, _ => rfl
  | n + 16, h => omega

theorem chg_ok : SpecOK Try.prog 18 chgS := by
  refine ⟨enters_of Try.func18 rfl rfl, fun args blks K h => ?_⟩
  simp only at h
  split at h
  · rename_i c e b
    obtain ⟨q, rfl, hq, hK⟩ := h
    by_cases ho : outC c = true
    · have h1 : chgE q c e b = 1 := by rw [chgE, if_pos (.inl ho)]
      have h2 : chgR q c e b = q := by rw [chgR, h1, if_neg (by decide)]
      rw [h1, h2] at hK
      refine FnOK.mvs (FnOK.of_vf (I := noI) mixed (.cons ofOut_ok (.cons may_ok .nil)) Try.func18 ?_)
      rw [chgO_vf]
      exact ⟨⟨normQ _ _, ltQ _ _⟩, ob_mk ho ⟨mvQ, rfl, hK⟩⟩
    · obtain ⟨k, rfl, hk⟩ := inC ho
      have ho : outC (k : Int) = false := outC_nat hk
      refine FnOK.trimQ 17 (by rw [lenQ]; exact Nat.le_refl _) (FnOK.of_vf (I := noI) mixed (.cons iqOf_ok (.cons may_ok .nil)) Try.func18 ?_)
      rw [chg_vf q e b (fun s t m => ∃ m', ((s.lt 17 && tblLt 17 t) && (Nat.beq t.length 17 && subB m m')) = true ∧ K s t m') k hk]
      unfold chgF
      rw [bif_ft, bif_ft]
      have hE : chgE q k e b = if mayF e b = false then 1 else if b > IntKind.i64.wrap (q.sp - q.B k) ∨ (q.n k : Int) ≥ q.fi then 7 else if e ≤ q.pr then 11 else 0 := by
        rw [chgE, ho, Int.toNat_natCast]; simp
      have other : ∀ x : Int, x ≠ 0 → chgE q k e b = x → K (.v (.int .i64 x)) (tblQ true q) mvQ := fun x hx he => by
        rw [chgR, he, if_neg hx] at hK; exact hK
      refine bc_mk (fun h1 => qEnd rfl (other 1 (by decide) ?_)) fun h1 => bc_mk (fun h2 => qEnd rfl (other 7 (by decide) ?_)) fun h2 => bc_mk (fun h3 => qEnd rfl (other 7 (by decide) ?_)) fun h3 => bc_mk (fun h4 => qEnd rfl (other 11 (by decide) ?_)) fun h4 => ?_
      all_goals (simp only [Bool.not_eq_true', Bool.not_eq_false', decide_eq_true_eq, decide_eq_false_iff_not] at *)
      · rw [hE, if_pos h1]
      · rw [hE, if_neg (by rw [h1]; decide), if_pos (.inl h2)]
      · rw [hE, if_neg (by rw [h1]; decide), if_pos (.inr h3)]
      · rw [hE, if_neg (by rw [h1]; decide), if_neg (by omega), if_pos h4]
      · have h0 : chgE q k e b = 0 := by rw [hE, if_neg (by rw [h1]; decide), if_neg (by omega), if_neg h4]
        rw [okQ] at hq
        rw [chgR, h0, if_pos rfl, Int.toNat_natCast] at hK
        have hl := hq.2 k
        refine ob_mk (by rw [hl.1]; exact nbeq _) (ob_mk (by rw [decide_eq_true_eq]; omega) (qEnd (sub_c hk) hK))
  · exact h.elim
theorem used_ok : SpecOK Try.prog 12 usedS := by
  refine q_roX mixed Try.func12 rfl rfl fun args blks K h => ?_
  split at h
  · rename_i c
    obtain ⟨q, rfl, hK⟩ := h
    refine ⟨_, rfl, hK, by rw [lenQ, ltQ, roQ]; rfl, ?_⟩
    by_cases ho : outC c = true
    · refine ⟨_, noI, .cons ofOut_ok .nil, ?_⟩
      rw [usedO_vf]
      exact ⟨⟨normQ _ _, ltQ _ _⟩, ob_mk ho (by rw [useB, useN, if_pos ho, if_pos ho])⟩
    · obtain ⟨k, rfl, hk⟩ := inC ho
      refine ⟨_, noI, .cons iqOf_ok .nil, ?_⟩
      rw [used_vf q (fun s => s = _) k hk, useB, useN, if_neg ho, if_neg ho, Int.toNat_natCast]
  · exact h.elim
theorem tot_ok : SpecOK Try.prog 14 totS := by
  refine q_roX mixed Try.func14 rfl rfl fun args blks K h => ?_
  split at h
  · obtain ⟨q, rfl, hK⟩ := h
    refine ⟨_, rfl, hK, by rw [lenQ, ltQ, roQ]; rfl, ?_⟩
    refine ⟨_, noI, .cons iqSum_ok (.cons iqSum1_ok (.cons iqSum2_ok .nil)), ?_⟩
    rw [tot_vf q (fun s => s = _)]
  · exact h.elim
theorem most_ok : SpecOK Try.prog 16 mostS := by
  refine q_roX mixed Try.func16 rfl rfl fun args blks K h => ?_
  split at h
  · rename_i c
    obtain ⟨q, rfl, hq, hK⟩ := h
    refine ⟨_, rfl, hK, by rw [lenQ, ltQ, roQ]; rfl, ?_⟩
    by_cases ho : outC c = true
    · refine ⟨_, noI, .cons ofOut_ok .nil, ?_⟩
      rw [mostO_vf]
      exact ⟨⟨normQ _ _, ltQ _ _⟩, ob_mk ho (by rw [mosT, if_pos ho])⟩
    · obtain ⟨k, rfl, hk⟩ := inC ho
      refine ⟨_, mostI q k, .cons iqOf_ok .nil, ?_⟩
      rw [most_vf q (fun s => s = _) k hk, mosT, if_neg ho, Int.toNat_natCast]
      unfold mostF
      rw [okQ] at hq
      have hl := hq.2 k
      have e0 : ((0 : Int) == mostG (q.L k) 0) = true := by rw [mostG]; rfl
      rw [e0]
      simp only [ob_t, beq_self_eq_true, nbeq, nble]
      intro j hj
      refine bc_mk (fun h1 => ?_) fun h1 => ?_
      · have h1 := of_decide_eq_true h1
        refine ob_mk (by rw [Bool.true_and]; exact decide_eq_true h1) (ob_mk (decide_eq_true (by rw [Int.toNat_natCast]; omega)) ⟨by omega, ?_⟩)
        refine ob_mk (by rw [mostG, Int.toNat_natCast, Nat.zero_add, beq_iff_eq]) (ob_mk ?_ trivial)
        rw [wrap_i64 _ (by omega) (by omega), beq_iff_eq]; omega
      · have h1 := of_decide_eq_false h1
        rw [show j = q.n k by omega]
  · exact h.elim
theorem rfS_ok : SpecOK Try.prog 19 rfS := by
  refine ⟨enters_of Try.func19 rfl rfl, fun args blks K h => ?_⟩
  simp only at h
  split at h
  · rename_i c e b
    obtain ⟨q, rfl, hq, hK⟩ := h
    by_cases ho : outC c = true
    · have h1 : rfE q c e b = 1 := by rw [rfE, if_pos (.inl ho)]
      have h2 : rfR q c e b = q := by rw [rfR, h1, if_neg (by decide)]
      rw [h1, h2] at hK
      refine FnOK.mvs (FnOK.of_vf (I := noI) mixed (.cons ofOut_ok (.cons may_ok .nil)) Try.func19 ?_)
      rw [rfO_vf]
      exact ⟨⟨normQ _ _, ltQ _ _⟩, ob_mk ho ⟨mvQ, rfl, hK⟩⟩
    · obtain ⟨k, rfl, hk⟩ := inC ho
      have ho : outC (k : Int) = false := outC_nat hk
      have hS : SpecsOK Try.prog rfSpecs := .cons iqOf_ok (.cons may_ok (.cons idx_ok (.cons del_ok .nil)))
      refine FnOK.trimQ 17 (by rw [lenQ]; exact Nat.le_refl _) (FnOK.of_vf (I := noI) mixed hS Try.func19 ?_)
      rw [rf_vf q e b (fun s t m => ∃ m', ((s.lt 17 && tblLt 17 t) && (Nat.beq t.length 17 && subB m m')) = true ∧ K s t m') k hk]
      unfold rfF
      rw [bif_ft]
      have hE : rfE q k e b = if mayF e b = false then 1 else if idxZ (q.L k) e b (q.n k) < 0 then 9 else 0 := by
        rw [rfE, ho, Int.toNat_natCast]; simp
      have other : ∀ x : Int, x ≠ 0 → rfE q k e b = x → K (.v (.int .i64 x)) (tblQ true q) mvQ := fun x hx he => by
        rw [rfR, he, if_neg hx] at hK; exact hK
      rw [okQ] at hq
      have hl := hq.2 k
      refine bc_mk (fun h1 => qEnd rfl (other 1 (by decide) ?_)) fun h1 => ob_mk ?_ (bc_mk (fun h2 => qEnd rfl (other 9 (by decide) ?_)) fun h2 => ?_)
      all_goals (simp only [Bool.not_eq_true', Bool.not_eq_false', Bool.and_eq_true, decide_eq_true_eq, decide_eq_false_iff_not] at *)
      · rw [hE, if_pos h1]
      · omega
      · rw [hE, if_neg (by rw [h1]; decide), if_pos h2]
      · have h0 : rfE q k e b = 0 := by rw [hE, if_neg (by rw [h1]; decide), if_neg h2]
        rw [rfR, h0, if_pos rfl, Int.toNat_natCast] at hK
        have hi : idxZ (q.L k) e b (q.n k) < q.n k := by
          have := noM_le (q.L k) e b (q.n k)
          rw [idxZ]; split <;> omega
        have hfin := qEnd (q := rfQ q k e b) (m := []) rfl hK
        simp only [Bool.and_eq_true] at hfin
        refine ob_mk ?_ hfin
        simp only [Bool.and_eq_true, decide_eq_true_eq]
        rw [wrap_i64 _ (by omega) (by omega)]
        omega
  · exact h.elim

end Go.Proofs.Ytahkneobmekokaa.Sx
