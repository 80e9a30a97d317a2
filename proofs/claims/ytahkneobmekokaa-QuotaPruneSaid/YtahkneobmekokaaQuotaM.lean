/- The quota in plain lists: the reference's, and that both are alike. No condition. -/
import Derived.Test.YtahkneobmekokaaSx12
import Derived.Test.YtahkneobmekokaaProg
import Derived.Test.YtahkneobmekokaaBase
import Derived.Test.YtahkneobmekokaaQuota0
import Derived.Test.YtahkneobmekokaaQuotaA
import Derived.Test.YtahkneobmekokaaQuotaB
import Derived.Test.YtahkneobmekokaaQuotaC
import Derived.Test.YtahkneobmekokaaQuotaD
import Derived.Test.YtahkneobmekokaaQuotaE
import Derived.Test.YtahkneobmekokaaQuotaF
import Derived.Test.YtahkneobmekokaaQuotaG
import Derived.Test.YtahkneobmekokaaQuotaH
import Derived.Test.YtahkneobmekokaaQuotaI
import Derived.Test.YtahkneobmekokaaQuotaJ
import Derived.Test.YtahkneobmekokaaQuotaL
namespace Go.Proofs.Ytahkneobmekokaa.Sx
open Go Go.Proofs
set_option maxRecDepth 100000
set_option linter.unusedSimpArgs false
set_option linter.unusedVariables false

abbrev TF := Int × PF
def fl3 : List TF → List Int
  | [] => []
  | t :: r => t.1 :: t.2.1 :: t.2.2 :: fl3 r
def pj (c : Int) : List TF → List PF
  | [] => []
  | t :: r => if t.1 = c then t.2 :: pj c r else pj c r
abbrev tD : TF := (0, 0, 0)
theorem fl3_len : ∀ T : List TF, (fl3 T).length = T.length * 3
  | [] => rfl
  | t :: r => by simp only [fl3, List.length_cons, fl3_len r]; omega
theorem fl3_app : ∀ S T : List TF, fl3 (S ++ T) = fl3 S ++ fl3 T
  | [], T => rfl
  | t :: r, T => by simp only [List.cons_append, fl3, fl3_app r T]
theorem fl3_get : ∀ (T : List TF) (k : Nat), (fl3 T).getD (k * 3) 0 = (T.getD k tD).1 ∧ (fl3 T).getD (k * 3 + 1) 0 = (T.getD k tD).2.1 ∧ (fl3 T).getD (k * 3 + 2) 0 = (T.getD k tD).2.2
  | [], k => by simp [fl3]
  | t :: r, 0 => by simp [fl3]
  | t :: r, k + 1 => by
    have := fl3_get r k
    rw [show (k + 1) * 3 = k * 3 + 1 + 1 + 1 by omega]
    simp only [fl3, List.getD_cons_succ]
    exact this
theorem fl3_take : ∀ (T : List TF) (k : Nat), (fl3 T).take (k * 3) = fl3 (T.take k)
  | [], k => by simp [fl3]
  | t :: r, 0 => by simp [fl3]
  | t :: r, k + 1 => by
    rw [show (k + 1) * 3 = k * 3 + 1 + 1 + 1 by omega]
    simp only [fl3, List.take_succ_cons, fl3_take r k]
theorem fl3_drop : ∀ (T : List TF) (k : Nat), (fl3 T).drop (k * 3) = fl3 (T.drop k)
  | [], k => by simp [fl3]
  | t :: r, 0 => by simp [fl3]
  | t :: r, k + 1 => by
    rw [show (k + 1) * 3 = k * 3 + 1 + 1 + 1 by omega]
    simp only [fl3, List.drop_succ_cons, fl3_drop r k]
theorem pj_app (c : Int) : ∀ S T : List TF, pj c (S ++ T) = pj c S ++ pj c T
  | [], T => rfl
  | t :: r, T => by
    simp only [List.cons_append, pj, pj_app c r T]
    split <;> simp
theorem pj_len (c : Int) : ∀ T : List TF, (pj c T).length ≤ T.length
  | [] => by simp [pj]
  | t :: r => by
    have := pj_len c r
    simp only [pj]; split <;> simp <;> omega
theorem pj_mem (c : Int) (x : PF) : ∀ T : List TF, x ∈ pj c T ↔ (c, x) ∈ T
  | [] => by simp [pj]
  | t :: r => by
    have ih := pj_mem c x r
    simp only [pj]
    split
    · rename_i h
      rw [List.mem_cons, List.mem_cons, ih]
      constructor
      · rintro (h1 | h1)
        · left; rw [Prod.ext_iff]; exact ⟨h.symm, h1⟩
        · right; exact h1
      · rintro (h1 | h1)
        · left; rw [← h1]
        · right; exact h1
    · rename_i h
      rw [ih, List.mem_cons]
      constructor
      · exact .inr
      · rintro (h1 | h1)
        · rw [← h1] at h; exact absurd rfl h
        · exact h1
theorem getD_takeT (T : List TF) (k : Nat) (h : k < T.length) : T.take (k + 1) = T.take k ++ [T.getD k tD] := by
  rw [List.take_succ_eq_append_getElem h, List.getD_eq_getElem?_getD, List.getElem?_eq_getElem h]; rfl
theorem isM_of (T : List TF) (c : Int) (k : Nat) : isM (fl3 T) c k = decide ((T.getD k tD).1 = c) := by
  rw [isM, (fl3_get T k).1]; rw [Bool.eq_iff_iff, beq_iff_eq, decide_eq_true_eq]
/-- What is in a list's beginning is in the list. -/
theorem pj_pre (c : Int) (T : List TF) (k : Nat) : pj c T = pj c (T.take k) ++ pj c (T.drop k) := by rw [← pj_app, List.take_append_drop]
section
variable {T : List TF} {c : Int}
theorem rB_of (hn : ∀ p ∈ pj c T, 0 ≤ p.2) (hs : sB (pj c T) ≤ 1048576) : ∀ k, k ≤ T.length → rB (fl3 T) c k = sB (pj c (T.take k))
  | 0, _ => by rw [rB]; simp [pj, sB]
  | k + 1, h => by
    have ih := rB_of hn hs k (by omega)
    have e := pj_pre c T (k + 1)
    have hn1 : ∀ p ∈ pj c (T.take (k + 1)), 0 ≤ p.2 := fun p hp => hn p (by rw [e]; exact List.mem_append_left _ hp)
    have hn2 : ∀ p ∈ pj c (T.drop (k + 1)), 0 ≤ p.2 := fun p hp => hn p (by rw [e]; exact List.mem_append_right _ hp)
    have g1 := sB_nn _ hn1
    have g2 := sB_nn _ hn2
    have g3 : sB (pj c T) = sB (pj c (T.take (k + 1))) + sB (pj c (T.drop (k + 1))) := by rw [← sB_app, ← e]
    rw [rB, isM_of, ih, (fl3_get T k).2.2]
    rw [getD_takeT T k (by omega), pj_app, sB_app] at g1 g3 ⊢
    by_cases hc : (T.getD k tD).1 = c
    · simp only [hc, decide_true, if_true, pj, sB] at g1 g3 ⊢
      rw [wrap_i64 _ (by omega) (by omega)]; omega
    · simp only [hc, decide_false, Bool.false_eq_true, if_false, pj, sB] at g1 g3 ⊢
      omega
theorem rN_of (hl : T.length ≤ 1000000) : ∀ k, k ≤ T.length → rN (fl3 T) c k = ((pj c (T.take k)).length : Int)
  | 0, _ => by rw [rN]; simp [pj]
  | k + 1, h => by
    have ih := rN_of hl k (by omega)
    have g1 := pj_len c (T.take k)
    have g2 : (T.take k).length ≤ k := by simp; omega
    rw [rN, isM_of, ih, getD_takeT T k (by omega), pj_app, List.length_append]
    by_cases hc : (T.getD k tD).1 = c
    · simp only [hc, decide_true, if_true, pj, List.length_cons, List.length_nil]
      rw [wrap_i64 _ (by omega) (by omega)]; omega
    · simp only [hc, decide_false, Bool.false_eq_true, if_false, pj, List.length_nil]
      omega
theorem rX_of : ∀ k, k ≤ T.length → rX (fl3 T) c k = mB (pj c (T.take k))
  | 0, _ => by rw [rX]; simp [pj, mB]
  | k + 1, h => by
    have ih := rX_of k (by omega)
    rw [rX, isM_of, ih, (fl3_get T k).2.2, getD_takeT T k (by omega), pj_app]
    by_cases hc : (T.getD k tD).1 = c
    · simp only [hc, decide_true, if_true, pj, mB_app]
      unfold mx
      split <;> omega
    · simp only [hc, decide_false, Bool.false_eq_true, if_false, pj, List.append_nil]
end
def sT : List TF → Int
  | [] => 0
  | t :: r => t.2.2 + sT r
theorem sT_app : ∀ S T : List TF, sT (S ++ T) = sT S + sT T
  | [], T => by simp [sT]
  | t :: r, T => by simp only [List.cons_append, sT, sT_app r T]; omega
theorem tot_cons (t : TF) (T : List TF) : ∀ n : Nat, totP (fun i => pj (i : Int) (t :: T)) n = totP (fun i => pj (i : Int) T) n + (if 0 ≤ t.1 ∧ t.1 < n then t.2.2 else 0)
  | 0 => by simp only [totP]; rw [if_neg (by omega)]; omega
  | n + 1 => by
    have ih := tot_cons t T n
    simp only [totP, pj] at ih ⊢
    rw [ih]
    by_cases h : t.1 = (n : Int)
    · rw [if_neg (by omega), if_pos h, if_pos (by omega)]; simp only [sB]; omega
    · rw [if_neg h]
      by_cases h2 : 0 ≤ t.1 ∧ t.1 < (n : Int)
      · rw [if_pos h2, if_pos (by omega)]; omega
      · rw [if_neg h2, if_neg (by omega)]; omega
theorem tot_all : ∀ T : List TF, (∀ t ∈ T, 0 ≤ t.1 ∧ t.1 ≤ 15) → totP (fun i => pj (i : Int) T) 16 = sT T
  | [], _ => by simp [pj, totP, sB, sT]
  | t :: r, h => by
    have h1 := h t (by simp)
    rw [tot_cons, tot_all r (fun x hx => h x (by simp [hx])), if_pos (by omega), sT]; omega
theorem sT_nn : ∀ T : List TF, (∀ t ∈ T, 0 ≤ t.2.2) → 0 ≤ sT T
  | [], _ => by simp [sT]
  | t :: r, h => by
    have h1 := h t (by simp)
    have h2 := sT_nn r (fun x hx => h x (by simp [hx]))
    simp only [sT]; omega
theorem rT_of (T : List TF) (hn : ∀ t ∈ T, 0 ≤ t.2.2) (hs : sT T ≤ 100000000) : ∀ k, k ≤ T.length → rT (fl3 T) k = sT (T.take k)
  | 0, _ => by rw [rT]; simp [sT]
  | k + 1, h => by
    have ih := rT_of T hn hs k (by omega)
    have g1 := sT_nn (T.take (k + 1)) (fun t ht => hn t (List.mem_of_mem_take ht))
    have g2 := sT_nn (T.drop (k + 1)) (fun t ht => hn t (List.mem_of_mem_drop ht))
    have g3 : sT T = sT (T.take (k + 1)) + sT (T.drop (k + 1)) := by rw [← sT_app, List.take_append_drop]
    rw [rT, ih, (fl3_get T k).2.2]
    rw [getD_takeT T k (by omega), sT_app] at g1 g3 ⊢
    simp only [sT] at g1 g3 ⊢
    rw [wrap_i64 _ (by omega) (by omega)]; omega
/-! Both alike -/
def PT (T : List TF) : Nat → List PF := fun i => pj (i : Int) T
structure Alike (sp fi pr : Int) (T : List TF) (n : Nat) : Prop where
  vp : VP sp fi (PT T)
  cl : ∀ t ∈ T, 0 ≤ t.1 ∧ t.1 ≤ 15
  ln : T.length ≤ n
def rOf (sp fi pr : Int) (T : List TF) : RS := ⟨sp, fi, pr, T.length, fl3 T⟩
theorem mayR_eq (c e b : Int) : mayR c e b = (!outC c && okF e b) := by
  rw [mayR, outC, okF, Bool.eq_iff_iff]
  simp only [Bool.and_eq_true, Bool.not_eq_true', Bool.or_eq_false_iff, decide_eq_true_eq, decide_eq_false_iff_not]
  omega
section
variable {sp fi pr : Int} {T : List TF} {n : Nat}
theorem Alike.mem (h : Alike sp fi pr T n) {t : TF} (ht : t ∈ T) : 0 ≤ t.2.1 ∧ t.2.1 ≤ 63 ∧ 0 ≤ t.2.2 := by
  have h1 := h.cl t ht
  refine h.vp.each t.1.toNat t.2 ?_
  show t.2 ∈ pj (t.1.toNat : Int) T
  rw [pj_mem, Int.toNat_of_nonneg h1.1]; exact ht
theorem Alike.bt (h : Alike sp fi pr T n) : sT T ≤ 100000000 := by
  have h1 := (totP_b h.vp 16).2
  have h2 : totP (PT T) 16 = sT T := tot_all T h.cl
  omega
theorem cast_c {c : Int} (h : outC c = false) : (c.toNat : Int) = c ∧ 0 ≤ c ∧ c ≤ 15 := by
  rw [outC, Bool.or_eq_false_iff, decide_eq_false_iff_not, decide_eq_false_iff_not] at h
  omega
theorem Alike.used (h : Alike sp fi pr T n) (hn : n ≤ 1000) (c : Int) : useB (qOf sp fi pr (PT T)) c = rB (fl3 T) c T.length ∧ useN (qOf sp fi pr (PT T)) c = rN (fl3 T) c T.length ∧ mosT (qOf sp fi pr (PT T)) c = rX (fl3 T) c T.length := by
  have hl := h.ln
  by_cases ho : outC c = true
  · have he : pj c T = [] := by
      cases hp : pj c T with
      | nil => rfl
      | cons p r =>
        have hm : p ∈ pj c T := by rw [hp]; simp
        have := h.cl _ ((pj_mem c p T).1 hm)
        rw [outC, Bool.or_eq_true, decide_eq_true_eq, decide_eq_true_eq] at ho
        simp only at this; omega
    rw [useB, useN, mosT, if_pos ho, if_pos ho, if_pos ho, rB_of (by rw [he]; simp) (by rw [he]; simp [sB]) _ (Nat.le_refl _), rN_of (by omega) _ (Nat.le_refl _), rX_of _ (Nat.le_refl _), List.take_length, he]
    simp [sB, mB]
  · have ho : outC c = false := by simpa using ho
    obtain ⟨hc, h0, h1⟩ := cast_c ho
    have hpt : PT T c.toNat = pj c T := by show pj (c.toNat : Int) T = _; rw [hc]
    have hs := h.vp.sum c.toNat
    have hs1 := h.vp.sp1
    have hee := h.vp.each c.toNat
    rw [hpt] at hs hee
    rw [useB, useN, mosT, if_neg (by rw [ho]; decide), if_neg (by rw [ho]; decide), if_neg (by rw [ho]; decide), rB_of (fun p hp => (hee p hp).2.2) (by omega) _ (Nat.le_refl _), rN_of (by omega) _ (Nat.le_refl _), rX_of _ (Nat.le_refl _), List.take_length]
    refine ⟨?_, ?_, ?_⟩
    · show sB (pj (c.toNat : Int) T) = _; rw [hc]
    · show ((pj (c.toNat : Int) T).length : Int) = _; rw [hc]
    · show mostG (fl2 (pj (c.toNat : Int) T)) (pj (c.toNat : Int) T).length = _
      rw [hc, mostG_of _ _ (Nat.le_refl _), List.take_length]
theorem Alike.total (h : Alike sp fi pr T n) : totW (qOf sp fi pr (PT T)) = rT (fl3 T) T.length := by
  rw [tot_of h.vp, rT_of T (fun t ht => (h.mem ht).2.2) h.bt _ (Nat.le_refl _), List.take_length]
  exact tot_all T h.cl
/-! A charge -/
theorem Alike.eqE (h : Alike sp fi pr T n) (hn : n ≤ 1000) (c e b : Int) : cE sp fi pr (PT T) c e b = rcE sp fi pr (fl3 T) T.length c e b := by
  rw [cE, rcE, mayR_eq]
  by_cases ho : outC c = true
  · rw [if_pos (.inl ho), if_pos (by rw [ho]; rfl)]
  · have ho : outC c = false := by simpa using ho
    have hu := h.used hn c
    have hs := h.vp.sum c.toNat
    have hs0 := h.vp.nn c.toNat
    have hs1 := h.vp.sp1
    have hs2 := h.vp.sp0
    have e1 : rB (fl3 T) c T.length = sB (PT T c.toNat) := by rw [← hu.1, useB, if_neg (by rw [ho]; decide)]; rfl
    have e2 : rN (fl3 T) c T.length = ((PT T c.toNat).length : Int) := by rw [← hu.2.1, useN, if_neg (by rw [ho]; decide)]; rfl
    rw [e1, e2, wrap_i64 (sp - _) (by omega) (by omega), ho]
    by_cases hm : okF e b = false
    · rw [if_pos (.inr hm), if_pos (by rw [hm]; rfl)]
    · have hm : okF e b = true := by simpa using hm
      rw [if_neg (c := false = true ∨ okF e b = false) (by simp [hm]), if_neg (c := (!false && okF e b) = false) (by simp [hm])]
theorem PT_app (c e b : Int) (ho : outC c = false) : PT (T ++ [(c, e, b)]) = upP (PT T) c.toNat (PT T c.toNat ++ [(e, b)]) := by
  obtain ⟨hc, h0, h1⟩ := cast_c ho
  funext i
  by_cases hi : i = c.toNat
  · subst hi
    rw [upP_c]
    show pj _ (T ++ _) = pj _ T ++ _
    rw [pj_app]
    simp only [pj, hc, if_true]
  · rw [upP_ne _ _ hi]
    show pj _ (T ++ _) = pj _ T
    rw [pj_app]
    have : c ≠ (i : Int) := by omega
    simp only [pj, this, if_false, List.append_nil]
theorem Alike.charge (h : Alike sp fi pr T n) (hn : n ≤ 1000) (c e b : Int) : chgE (qOf sp fi pr (PT T)) c e b = rcE sp fi pr (fl3 T) T.length c e b ∧
    ∃ T', chgR (qOf sp fi pr (PT T)) c e b = qOf sp fi pr (PT T') ∧ rcN sp fi pr (fl3 T) T.length c e b = T'.length ∧ rcM sp fi pr (fl3 T) T.length c e b = fl3 T' ∧ Alike sp fi pr T' (n + 1) := by
  have hE := h.eqE hn c e b
  refine ⟨by rw [chgE_of h.vp]; exact hE, ?_⟩
  obtain ⟨g1, g2⟩ := chgR_of (pr := pr) h.vp c e b
  rw [g1, rcN, rcM, ← hE]
  rw [cP] at g2 ⊢
  by_cases h0 : cE sp fi pr (PT T) c e b = 0
  · obtain ⟨ho, _⟩ := cE_0 h0
    obtain ⟨hc, k0, k1⟩ := cast_c ho
    rw [if_pos h0] at g2
    rw [if_pos h0, if_pos h0, if_pos h0]
    refine ⟨T ++ [(c, e, b)], by rw [PT_app _ _ _ ho], by simp, by rw [fl3_app]; rfl, ?_, fun t ht => ?_, by have := h.ln; simp; omega⟩
    · rw [← PT_app _ _ _ ho] at g2; exact g2
    · rcases List.mem_append.1 ht with ht | ht
      · exact h.cl t ht
      · simp at ht; subst ht; exact ⟨k0, k1⟩
  · rw [if_neg h0, if_neg h0, if_neg h0]
    exact ⟨T, rfl, rfl, rfl, h.vp, h.cl, by have := h.ln; omega⟩
/-! A refund -/
theorem isF_of (T : List TF) (c e b : Int) (k : Nat) : isF (fl3 T) c e b k = decide (T.getD k tD = (c, e, b)) := by
  rw [isF, (fl3_get T k).1, (fl3_get T k).2.1, (fl3_get T k).2.2, Bool.eq_iff_iff]
  simp only [Bool.and_eq_true, beq_iff_eq, decide_eq_true_eq]
  constructor
  · rintro ⟨h1, h2, h3⟩; rw [Prod.ext_iff, Prod.ext_iff]; exact ⟨h1, h2, h3⟩
  · intro h; rw [h]; exact ⟨rfl, rfl, rfl⟩
theorem nF_of (T : List TF) (c e b : Int) : (nF (fl3 T) c e b T.length < T.length ↔ (c, e, b) ∈ T) ∧ ((c, e, b) ∈ T → (fl3 T).take (nF (fl3 T) c e b T.length * 3) ++ (fl3 T).drop (nF (fl3 T) c e b T.length * 3 + 3) = fl3 (T.erase (c, e, b))) := by
  have hle := nF_le (fl3 T) c e b T.length
  by_cases hlt : nF (fl3 T) c e b T.length < T.length
  · have hy := nF_yes (fl3 T) c e b T.length hlt
    rw [isF_of, decide_eq_true_eq] at hy
    have hno : ∀ j, j < nF (fl3 T) c e b T.length → T.getD j tD ≠ (c, e, b) := fun j hj => by
      have := nF_no (fl3 T) c e b T.length j hj
      rw [isF_of, decide_eq_false_iff_not] at this
      exact this
    have hm : (c, e, b) ∈ T := by
      rw [← hy, List.getD_eq_getElem?_getD, List.getElem?_eq_getElem hlt]
      exact List.getElem_mem _
    refine ⟨⟨fun _ => hm, fun _ => hlt⟩, fun _ => ?_⟩
    rw [fl3_take, show nF (fl3 T) c e b T.length * 3 + 3 = (nF (fl3 T) c e b T.length + 1) * 3 by omega, fl3_drop, ← fl3_app, erase_at tD T (c, e, b) _ hlt hno hy]
  · have hm : (c, e, b) ∉ T := not_mem_of tD T (c, e, b) fun j hj => by
      have := nF_no (fl3 T) c e b T.length j (by omega)
      rw [isF_of, decide_eq_false_iff_not] at this
      exact this
    exact ⟨⟨fun h => absurd h hlt, fun h => absurd h hm⟩, fun h => absurd h hm⟩
theorem pj_erase (i c : Int) (x : PF) : ∀ T : List TF, pj i (T.erase (c, x)) = if i = c then (pj i T).erase x else pj i T
  | [] => by simp [pj]
  | t :: r => by
    have ih := pj_erase i c x r
    by_cases ht : t = (c, x)
    · subst ht
      rw [List.erase_cons_head]
      by_cases hi : i = c
      · subst hi; simp [pj]
      · have : ¬ c = i := fun h => hi h.symm
        simp [pj, hi, this]
    · rw [List.erase_cons_tail (by simpa using ht)]
      simp only [pj, ih]
      by_cases hi : i = c
      · subst hi
        simp only [if_true]
        by_cases h1 : t.1 = i
        · simp only [h1, if_true]
          have : t.2 ≠ x := fun h2 => ht (by rw [Prod.ext_iff]; exact ⟨h1, h2⟩)
          rw [List.erase_cons_tail (by simpa using this)]
        · simp only [h1, if_false]
      · simp only [hi, if_false]
theorem PT_erase (c e b : Int) (ho : outC c = false) : PT (T.erase (c, e, b)) = upP (PT T) c.toNat ((PT T c.toNat).erase (e, b)) := by
  obtain ⟨hc, h0, h1⟩ := cast_c ho
  funext i
  by_cases hi : i = c.toNat
  · subst hi
    rw [upP_c]
    show pj _ (T.erase _) = _
    rw [pj_erase, if_pos hc]; rfl
  · rw [upP_ne _ _ hi]
    show pj _ (T.erase _) = _
    rw [pj_erase, if_neg (by omega)]; rfl
theorem Alike.eqF (h : Alike sp fi pr T n) (c e b : Int) : fE (PT T) c e b = rfE2 (fl3 T) T.length c e b := by
  rw [fE, rfE2, mayR_eq]
  by_cases ho : outC c = true
  · rw [if_pos (.inl ho), if_pos (by rw [ho]; rfl)]
  · have ho : outC c = false := by simpa using ho
    obtain ⟨hc, h0, h1⟩ := cast_c ho
    rw [ho]
    by_cases hm : okF e b = false
    · rw [if_pos (.inr hm), if_pos (by rw [hm]; rfl)]
    · have hm : okF e b = true := by simpa using hm
      rw [if_neg (c := false = true ∨ okF e b = false) (by simp [hm]), if_neg (c := (!false && okF e b) = false) (by simp [hm])]
      have hmm : (e, b) ∈ PT T c.toNat ↔ (c, e, b) ∈ T := by
        show (e, b) ∈ pj (c.toNat : Int) T ↔ _
        rw [hc, pj_mem]
      by_cases hx : (c, e, b) ∈ T
      · rw [if_pos (hmm.2 hx), if_pos ((nF_of T c e b).1.2 hx)]
      · rw [if_neg (fun hh => hx (hmm.1 hh)), if_neg (fun hh => hx ((nF_of T c e b).1.1 hh))]
theorem Alike.refund (h : Alike sp fi pr T n) (c e b : Int) : rfE (qOf sp fi pr (PT T)) c e b = rfE2 (fl3 T) T.length c e b ∧
    ∃ T', rfR (qOf sp fi pr (PT T)) c e b = qOf sp fi pr (PT T') ∧ rfN2 (fl3 T) T.length c e b = T'.length ∧ rfM2 (fl3 T) T.length c e b = fl3 T' ∧ Alike sp fi pr T' (n + 1) := by
  have hE := h.eqF c e b
  refine ⟨by rw [rfE_of h.vp]; exact hE, ?_⟩
  obtain ⟨g1, g2⟩ := rfR_of (pr := pr) h.vp c e b
  rw [g1, rfN2, rfM2, ← hE]
  rw [fP] at g2 ⊢
  by_cases h0 : fE (PT T) c e b = 0
  · obtain ⟨ho, hm⟩ := fE_0 h0
    obtain ⟨hc, k0, k1⟩ := cast_c ho
    have hx : (c, e, b) ∈ T := by
      have : (e, b) ∈ pj (c.toNat : Int) T := hm
      rw [hc, pj_mem] at this; exact this
    rw [if_pos h0] at g2
    rw [if_pos h0, if_pos h0, if_pos h0]
    refine ⟨T.erase (c, e, b), by rw [PT_erase _ _ _ ho], (List.length_erase_of_mem hx).symm, (nF_of T c e b).2 hx, ?_, fun t ht => h.cl t (List.mem_of_mem_erase ht), by have := h.ln; rw [List.length_erase_of_mem hx]; omega⟩
    rw [← PT_erase _ _ _ ho] at g2; exact g2
  · rw [if_neg h0, if_neg h0, if_neg h0]
    exact ⟨T, rfl, rfl, rfl, h.vp, h.cl, by have := h.ln; omega⟩
/-! A prune -/
def kpT (e : Int) (T : List TF) : List TF := T.filter fun t => decide (t.2.1 > e)
theorem pR_of (T : List TF) (e : Int) : ∀ k, k ≤ T.length → pR (fl3 T) e k = fl3 (kpT e (T.take k)) ∧ kR (fl3 T) e k = (kpT e (T.take k)).length
  | 0, _ => by rw [pR, kR]; simp [kpT, fl3]
  | k + 1, h => by
    obtain ⟨h1, h2⟩ := pR_of T e k (by omega)
    rw [pR, kR, h1, h2, getD_takeT T k (by omega), (fl3_get T k).1, (fl3_get T k).2.1, (fl3_get T k).2.2]
    unfold kpT
    rw [List.filter_append]
    by_cases hc : (T.getD k tD).2.1 > e
    · simp only [hc, decide_true, if_true, List.filter_cons, List.filter_nil, fl3_app, fl3, List.length_append, List.length_cons, List.length_nil, and_self]
    · simp only [hc, decide_false, Bool.false_eq_true, if_false, List.filter_cons, List.filter_nil, List.append_nil, and_self]
theorem pj_kp (i e : Int) : ∀ T : List TF, pj i (kpT e T) = kpP e (pj i T)
  | [] => by simp [kpT, pj, kpP]
  | t :: r => by
    have ih := pj_kp i e r
    unfold kpT kpP at *
    by_cases h1 : t.2.1 > e
    · have h2 : ¬ t.2.1 ≤ e := by omega
      by_cases h3 : t.1 = i
      · simp [List.filter_cons, pj, h1, h2, h3, ih]
      · simp [List.filter_cons, pj, h1, h3, ih]
    · have h2 : t.2.1 ≤ e := by omega
      by_cases h3 : t.1 = i
      · simp [List.filter_cons, pj, h1, h2, h3, ih]
      · simp [List.filter_cons, pj, h1, h3, ih]
theorem nG_cons (e : Int) (t : TF) (T : List TF) : ∀ m : Nat, nG (fun i => pj (i : Int) (t :: T)) e m = nG (fun i => pj (i : Int) T) e m + (if (0 ≤ t.1 ∧ t.1 < m) ∧ t.2.1 ≤ e then 1 else 0)
  | 0 => by simp only [nG]; rw [if_neg (by omega)]; omega
  | m + 1 => by
    have ih := nG_cons e t T m
    simp only [nG, pj] at ih ⊢
    rw [ih]
    by_cases h : t.1 = (m : Int)
    · rw [if_pos h]
      unfold gnP
      by_cases h2 : t.2.1 ≤ e
      · rw [if_neg (by omega), if_pos (by omega)]; simp [List.filter_cons, h2]; omega
      · rw [if_neg (by omega), if_neg (by omega)]; simp [List.filter_cons, h2]
    · rw [if_neg h]
      by_cases h2 : (0 ≤ t.1 ∧ t.1 < (m : Int)) ∧ t.2.1 ≤ e
      · rw [if_pos h2, if_pos (by omega)]; omega
      · rw [if_neg h2, if_neg (by omega)]; omega
theorem nG_all (e : Int) : ∀ T : List TF, (∀ t ∈ T, 0 ≤ t.1 ∧ t.1 ≤ 15) → nG (fun i => pj (i : Int) T) e 16 = (T.length : Int) - ((kpT e T).length : Int)
  | [], _ => by simp [pj, nG, gnP, kpT]
  | t :: r, h => by
    have h1 := h t (by simp)
    rw [nG_cons, nG_all e r (fun x hx => h x (by simp [hx]))]
    unfold kpT
    by_cases h2 : t.2.1 ≤ e
    · have h3 : ¬ t.2.1 > e := by omega
      rw [if_pos (by omega)]; simp [List.filter_cons, h3]; omega
    · have h3 : t.2.1 > e := by omega
      rw [if_neg (by omega)]; simp [List.filter_cons, h3]; omega
theorem Alike.prune (h : Alike sp fi pr T n) (hn : n ≤ 1000) (e : Int) : prK (qOf sp fi pr (PT T)) e 16 = IntKind.i64.wrap ((T.length : Int) - (kR (fl3 T) e T.length : Int)) ∧
    prR (qOf sp fi pr (PT T)) e = qOf sp fi (mx pr e) (PT (kpT e T)) ∧ kR (fl3 T) e T.length = (kpT e T).length ∧ pR (fl3 T) e T.length = fl3 (kpT e T) ∧ Alike sp fi (mx pr e) (kpT e T) (n + 1) := by
  have hl := h.ln
  obtain ⟨g1, g2⟩ := pR_of T e T.length (Nat.le_refl _)
  rw [List.take_length] at g1 g2
  have hk : (kpT e T).length ≤ T.length := List.length_filter_le _ _
  have hP : pP (PT T) e 16 = PT (kpT e T) := by
    funext i
    show _ = pj (i : Int) (kpT e T)
    rw [pj_kp]
    unfold pP
    split
    · rfl
    · have he : pj (i : Int) T = [] := by
        cases hp : pj (i : Int) T with
        | nil => rfl
        | cons p r =>
          have hm : p ∈ pj (i : Int) T := by rw [hp]; simp
          have := h.cl _ ((pj_mem _ p T).1 hm)
          simp only at this; omega
      show pj (i : Int) T = _
      rw [he]; rfl
  refine ⟨?_, ?_, g2, g1, ?_, fun t ht => h.cl t (List.mem_filter.1 ht).1, by omega⟩
  · rw [prK_of h.vp e 16 (Nat.le_refl _), g2, wrap_i64 _ (by omega) (by omega)]
    exact nG_all e T h.cl
  · rw [prR_of h.vp e, hP]
  · have := h.vp.pr e 16
    rw [hP] at this
    exact this
end

end Go.Proofs.Ytahkneobmekokaa.Sx
