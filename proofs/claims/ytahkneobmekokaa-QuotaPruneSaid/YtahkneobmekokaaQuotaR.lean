/- The statement QuotaPrune. No condition. -/
import Derived.Test.YtahkneobmekokaaSx12
import Derived.Test.YtahkneobmekokaaProg
import Derived.Test.YtahkneobmekokaaBase
import Derived.Test.YtahkneobmekokaaSlices
import Derived.Test.YtahkneobmekokaaQuota0
import Derived.Test.YtahkneobmekokaaQuotaA
import Derived.Test.YtahkneobmekokaaQuotaB
import Derived.Test.YtahkneobmekokaaQuotaC
import Derived.Test.YtahkneobmekokaaQuotaD
import Derived.Test.YtahkneobmekokaaQuotaE
import Derived.Test.YtahkneobmekokaaQuotaF
import Derived.Test.YtahkneobmekokaaQuotaG
import Derived.Test.YtahkneobmekokaaQuotaH
import Derived.Test.YtahkneobmekokaaQuotaI
import Derived.Test.YtahkneobmekokaaQuotaJ
import Derived.Test.YtahkneobmekokaaQuotaL
import Derived.Test.YtahkneobmekokaaQuotaM
import Derived.Test.YtahkneobmekokaaQuotaP
import Derived.Test.YtahkneobmekokaaQuotaQ
import Derived.Test.YtahkneobmekokaaQuotaS
namespace Go.Proofs.Ytahkneobmekokaa.Sx
open Go Go.Proofs
set_option maxRecDepth 100000
set_option linter.unusedSimpArgs false
set_option linter.unusedVariables false

def runC (D : List Int) : Nat → QS
  | 0 => newQ 100000 32
  | k + 1 => chgR (runC D k) (D.getD (k * 4 + 1) 0) (D.getD (k * 4 + 2) 0) (D.getD (k * 4 + 3) 0)
def wanC (D : List Int) (ep : Int) : Nat → Int
  | 0 => 0
  | k + 1 => if chgE (runC D k) (D.getD (k * 4 + 1) 0) (D.getD (k * 4 + 2) 0) (D.getD (k * 4 + 3) 0) = 0 ∧ D.getD (k * 4 + 2) 0 > ep then IntKind.i64.wrap (wanC D ep k + D.getD (k * 4 + 3) 0) else wanC D ep k
def pnEnv (ep : Int) (n cp : Nat) (k w : Int) : Env := [(7, .v (.int .i64 k)), (6, .v (.int .i64 w)), (0, .slc 0 0 n cp 4), (1, .v (.int .i64 ep)), (5, .ptr 1 0)]
def pnSt (D : List Int) (ep : Int) (n cp : Nat) (k w : Int) (q : QS) (mv : List Nat) : St := ⟨pnEnv ep n cp k w, 84, tblE D q, mv, 1⟩
def pnI (D : List Int) (ep : Int) (n cp : Nat) : Nat → St → LK := fun id st => match id with
  | 0 => .inv n fun k => pnSt D ep n cp (k : Int) (wanC D ep k) (runC D k) mvC
  | _ => .unroll 20
def pnSpecs : Specs := [(8, closedS), (9, newS), (18, chgS), (20, prS), (14, totS)]
def iC (n k : Nat) (X : Prop) : Prop := ob (true && decide ((k : Int) < (n : Int))) X
def lC (D : List Int) (k o : Nat) (X : Prop) : Prop := ob (decide (0 + (k : Int).toNat * 4 + o < D.length)) X
def eC (D : List Int) (k : Nat) (X : Prop) : Prop := ob (D.getD (0 + (k : Int).toNat * 4 + 1) 0 == D.getD (0 + (k : Int).toNat * 4 + 1) 0) X
/-- A deed's end. -/
def pnN (D : List Int) (ep : Int) (n cp k : Nat) (q : QS) (w : Int) : Prop :=
  k < n ∧ stLe (pnSt D ep n cp (IntKind.i64.wrap ((k : Int) + 1)) w q (mvC ++ mvC)) (pnSt D ep n cp ((k + 1 : Nat) : Int) (wanC D ep (k + 1)) (runC D (k + 1)) mvC) True
def pnX (D : List Int) (ep : Int) (n cp k : Nat) (q : QS) : Prop :=
  lC D k 2 (bc (bif true then decide (D.getD (0 + (k : Int).toNat * 4 + 2) 0 > ep) else false) (iC n k (lC D k 3 (pnN D ep n cp k q (IntKind.i64.wrap (wanC D ep k + D.getD (0 + (k : Int).toNat * 4 + 3) 0))))) (pnN D ep n cp k q (wanC D ep k)))
def pnY (n k : Nat) (X : Prop) : Prop := (iC n k ((X ∧ X) ∧ X) ∧ iC n k X) ∧ iC n k X
def pnZ (X : Prop) : Prop := ((((X ∧ X) ∧ X) ∧ X) ∧ X)
def pnC (D : List Int) (k : Nat) (q : QS) (X : QS → Bool → Prop) : Prop :=
  ∃ q', tblQ true q = tblQ true q' ∧ okQ q' ∧ X (chgR q' (D.getD (0 + (k : Int).toNat * 4 + 1) 0) (D.getD (0 + (k : Int).toNat * 4 + 2) 0) (D.getD (0 + (k : Int).toNat * 4 + 3) 0)) (chgE q' (D.getD (0 + (k : Int).toNat * 4 + 1) 0) (D.getD (0 + (k : Int).toNat * 4 + 2) 0) (D.getD (0 + (k : Int).toNat * 4 + 3) 0) == 0)
def pnG (D : List Int) (ep : Int) (n cp k : Nat) : Prop :=
  pnC D k (runC D k) fun q b => bc b (pnY n k (pnX D ep n cp k q)) (pnZ (pnN D ep n cp k q (wanC D ep k))) ∧ (bc b (pnY n k (pnX D ep n cp k q)) (pnZ (pnN D ep n cp k q (wanC D ep k))) ∧ bc b (iC n k (pnX D ep n cp k q) ∧ iC n k (pnX D ep n cp k q)) (pnN D ep n cp k q (wanC D ep k) ∧ pnN D ep n cp k q (wanC D ep k)))
def pnE (q : QS) (ep w : Int) (T F : Prop) : Prop :=
  ∃ q1, tblQ true q = tblQ true q1 ∧ okQ q1 ∧ ∃ q2, tblQ false (prR q1 ep) = tblQ false q2 ∧ bc (totW q2 != w) F (∃ q3, tblQ true (prR q1 ep) = tblQ true q3 ∧ okQ q3 ∧ bc (bif false then true else prK q3 ep 16 != 0) F
    (∃ q4, tblQ true (prR q3 ep) = tblQ true q4 ∧ okQ q4 ∧ bc (chgE q4 0 (mn ep 63) 0 == 11) T (bc (bif false then true else chgE q4 0 (mn ep 63) 0 == 7) T F)))
def pnF (D : List Int) (ep : Int) (n cp : Nat) (K : SV → Prop) : Prop :=
  bc (decide ((n : Int) > 100)) (K (.v (.bool true))) (bc (bif false then true else decide (ep < 0)) (K (.v (.bool true)))
    (stLe (pnSt D ep n cp 0 0 (newQ 100000 32) []) (pnSt D ep n cp ((0 : Nat) : Int) (wanC D ep 0) (runC D 0) mvC)
      (∀ k, k ≤ n → bc (decide ((k : Int) < (n : Int)))
        (iC n k (iC n k (iC n k (lC D k 1 (lC D k 2 (lC D k 1 (eC D k (lC D k 3 (lC D k 1 (eC D k (pnG D ep n cp k)))))) ∧ lC D k 3 (lC D k 1 (eC D k (lC D k 2 (lC D k 1 (eC D k (pnG D ep n cp k)))))))))))
        (pnE (runC D k) ep (wanC D ep k) (K (.v (.bool true))) (K (.v (.bool false)))))))
theorem pn_vf (D : List Int) (ep : Int) (n cp : Nat) (K : SV → Prop) : (vf Try.prog pnSpecs (pnI D ep n cp) Try.f6 [.slc 0 0 n cp 4, .v (.int .i64 ep)] [.ints false .i64 D] fun s _ _ => K s) = pnF D ep n cp K := by kernel_rfl
theorem pnEnv_le (ep : Int) {n cp : Nat} (hc : n ≤ cp) {k k' w w' : Int} (hk : k = k') (hw : w = w') {K : Prop} (h : K) : envLeK (pnEnv ep n cp k w) (pnEnv ep n cp k' w') K := by
  subst hk hw
  simp only [pnEnv, envLeK, look, Nat.reduceBEq, Nat.beq_eq_true_eq]
  have key : ∀ (s : SV) (K : Prop), s.okS → K → SV.leK s s K := leK_self
  exact key _ _ (by simp [SV.okS]) (key _ _ (by simp [SV.okS]) (key _ _ (by simp only [SV.okS]; exact hc) (key _ _ (by simp [SV.okS]) (key _ _ (by simp [SV.okS]) h))))
theorem pnSt_le (D : List Int) (ep : Int) {n cp : Nat} (hc : n ≤ cp) {k k' w w' : Int} (hk : k = k') (hw : w = w') {q q' : QS} (hq : q = q') {m m' : List Nat} (hm : subB m m' = true) {K : Prop} (h : K) : stLe (pnSt D ep n cp k w q m) (pnSt D ep n cp k' w' q' m') K := by
  subst hq
  refine stLe_mk rfl rfl (by show 1 ≤ (tblE D q).length; rw [lenE]; omega) hm ?_ (pnEnv_le ep hc hk hw (tblLeK_self _ _ (okE D q) h))
  show (envLt (tblE D q).length (pnEnv ep n cp k' w') && tblLt (tblE D q).length (tblE D q)) = true
  rw [lenE, ltE]; rfl
theorem kpP_app (e : Int) (l : List PF) (x : PF) : kpP e (l ++ [x]) = kpP e l ++ (if x.1 ≤ e then [] else [x]) := by
  unfold kpP
  rw [List.filter_append]
  by_cases h : x.1 ≤ e
  · simp [h]
  · simp [h]
theorem gn_kp (e : Int) (l : List PF) : gnP e (kpP e l) = [] := by
  unfold gnP kpP
  rw [List.filter_eq_nil_iff]
  intro p hp
  have := (List.mem_filter.1 hp).2
  simp only [Bool.not_eq_true', decide_eq_false_iff_not] at this
  simp only [decide_eq_true_eq]; exact this
theorem pP_up (P : Nat → List PF) (e : Int) {c : Nat} (hc : c < 16) (l : List PF) : pP (upP P c l) e 16 = upP (pP P e 16) c (kpP e l) := by
  funext i
  by_cases hi : i = c
  · subst hi
    rw [upP_c, pP, if_pos hc, upP_c]
  · rw [upP_ne _ _ hi, pP, pP, upP_ne _ _ hi]
theorem nG_0 (P : Nat → List PF) (e : Int) : ∀ c, c ≤ 16 → nG (pP P e 16) e c = 0
  | 0, _ => rfl
  | c + 1, h => by
    rw [nG, nG_0 P e c (by omega), pP, if_pos (by omega), gn_kp]; rfl
theorem runC_inv (D : List Int) (ep : Int) : ∀ k, ∃ pr P, runC D k = qOf 100000 32 pr P ∧ VP 100000 32 P ∧ wanC D ep k = totP (pP P ep 16) 16
  | 0 => by
    obtain ⟨h1, h2⟩ := new_of 100000 32
    rw [show mn (mx 100000 0) 1048576 = 100000 by decide, show mn (mx 32 0) 32 = 32 by decide] at h1 h2
    refine ⟨-1, fun _ => [], by rw [runC]; exact h1, h2, ?_⟩
    rw [wanC]; rfl
  | k + 1 => by
    obtain ⟨pr, P, h1, h2, h3⟩ := runC_inv D ep k
    obtain ⟨g1, g2⟩ := chgR_of (pr := pr) h2 (D.getD (k * 4 + 1) 0) (D.getD (k * 4 + 2) 0) (D.getD (k * 4 + 3) 0)
    refine ⟨pr, _, by rw [runC, h1]; exact g1, g2, ?_⟩
    rw [wanC, h1, chgE_of h2, h3]
    by_cases h0 : cE 100000 32 pr P (D.getD (k * 4 + 1) 0) (D.getD (k * 4 + 2) 0) (D.getD (k * 4 + 3) 0) = 0
    · obtain ⟨ho, f1, f2, f3, f4, f5, _⟩ := cE_0 h0
      have hc := outC_lt ho
      have hn := h2.nn (D.getD (k * 4 + 1) 0).toNat
      have hb := totP_b (h2.pr ep 16) 16
      rw [cP, if_pos h0, pP_up _ _ hc, totP_up, if_pos hc, kpP_app, show pP P ep 16 (D.getD (k * 4 + 1) 0).toNat = kpP ep (P (D.getD (k * 4 + 1) 0).toNat) by rw [pP, if_pos hc]]
      by_cases hx : D.getD (k * 4 + 2) 0 > ep
      · rw [if_pos ⟨h0, hx⟩, if_neg (by omega), sB_app, wrap_i64 _ (by omega) (by omega)]
        simp only [sB]; omega
      · rw [if_neg (fun h => hx h.2), if_pos (by omega), List.append_nil]; omega
    · rw [if_neg (fun h => h0 h.1), cP, if_neg h0]
theorem pnE_mk {pr : Int} {P : Nat → List PF} (hV : VP 100000 32 P) {ep : Int} (he : 0 ≤ ep) {T F : Prop} (hT : T) : pnE (qOf 100000 32 pr P) ep (totP (pP P ep 16) 16) T F := by
  have rb : ∀ (x : Bool) (p q : Prop), x = false → q → bc x p q := fun x p q hx hq => by rw [hx]; exact hq
  have rt : ∀ (x : Bool) (p q : Prop), x = true → p → bc x p q := fun x p q hx hq => by rw [hx]; exact hq
  have v1 := hV.pr ep 16
  have v2 := v1.pr ep 16
  unfold pnE
  refine ⟨_, rfl, hV.okq, ?_⟩
  rw [prR_of hV]
  refine ⟨_, rfl, rb _ _ _ (bne_eq (tot_of v1)) ⟨_, rfl, v1.okq, rb _ _ _ (bne_eq ?_) ?_⟩⟩
  · rw [prK_of v1 _ _ (Nat.le_refl _), nG_0 _ _ _ (Nat.le_refl _)]
  · rw [prR_of v1]
    refine ⟨_, rfl, v2.okq, bc_mk (fun _ => hT) fun h => rt _ _ _ ?_ hT⟩
    rw [beq_eq_false_iff_ne, chgE_of v2] at h
    show (chgE _ _ _ _ == 7) = true
    rw [beq_iff_eq, chgE_of v2]
    have hm1 : 0 ≤ mn ep 63 := by unfold mn; split <;> omega
    have hm2 : mn ep 63 ≤ 63 := by unfold mn; split <;> omega
    have hm3 : mn ep 63 ≤ mx (mx pr ep) ep := by unfold mn mx; (repeat' split) <;> omega
    unfold cE at h ⊢
    have hno : ¬ (outC 0 = true ∨ okF (mn ep 63) 0 = false) := by
      rw [not_or]
      refine ⟨by decide, ?_⟩
      simp only [okF, hm1, hm2, decide_true, Bool.and_self, Bool.true_and]
      decide
    rw [if_neg hno] at h ⊢
    split at h
    · rename_i h7; rw [if_pos h7]
    · first | exact absurd rfl h | (rw [if_pos hm3] at h; exact absurd rfl h)
def pruneS : Spec := .q fun args blks K => match args, blks with
  | [.slc 0 0 n cp 4, .v (.int .i64 _)], [.ints false .i64 D] => ob (decide (D.length = n * 4) && decide (n ≤ cp)) (K (.v (.bool true)))
  | _, _ => False
set_option maxHeartbeats 2000000 in
theorem prune_ok : SpecOK Try.prog 6 pruneS := by
  have hS : SpecsOK Try.prog pnSpecs := .cons awake49_ok (.cons new_ok (.cons chg_ok (.cons prS_ok (.cons tot_ok .nil))))
  refine q_roX mixed Try.func6 rfl rfl fun args blks K h => ?_
  split at h
  · rename_i n cp ep D
    rw [ob_iff, Bool.and_eq_true, decide_eq_true_eq, decide_eq_true_eq] at h
    obtain ⟨⟨hD, hcp⟩, hK⟩ := h
    refine ⟨_, rfl, hK, rfl, pnSpecs, pnI D ep n cp, hS, ?_⟩
    rw [pn_vf D ep n cp (fun s => s = .v (.bool true))]
    unfold pnF
    refine bc_mk (fun _ => rfl) fun hn => bc_mk (fun _ => rfl) fun he => ?_
    have hn := of_decide_eq_false hn
    have he : 0 ≤ ep := by
      have : decide (ep < 0) = false := he
      have := of_decide_eq_false this; omega
    refine pnSt_le D ep hcp rfl (by rw [wanC]) (by rw [runC]) rfl ?_
    intro k hk
    obtain ⟨pr, P, hq, hV, hw⟩ := runC_inv D ep k
    refine bc_mk (fun h1 => ?_) fun _ => ?_
    · have h1 := of_decide_eq_true h1
      have hkn : k < n := by omega
      have mi : ∀ {X : Prop}, X → iC n k X := fun hX => ob_mk (by rw [Bool.true_and]; exact decide_eq_true h1) hX
      have ml : ∀ {o : Nat} {X : Prop}, o < 4 → X → lC D k o X := fun ho hX => ob_mk (decide_eq_true (by rw [Int.toNat_natCast]; omega)) hX
      have me : ∀ {X : Prop}, X → eC D k X := fun hX => ob_mk (by rw [beq_iff_eq]) hX
      have hidx : ∀ o, D.getD (0 + (k : Int).toNat * 4 + o) 0 = D.getD (k * 4 + o) 0 := fun o => by rw [Int.toNat_natCast, Nat.zero_add]
      have hs1 : runC D (k + 1) = chgR (runC D k) (D.getD (k * 4 + 1) 0) (D.getD (k * 4 + 2) 0) (D.getD (k * 4 + 3) 0) := by rw [runC]
      have hs2 : wanC D ep (k + 1) = if chgE (runC D k) (D.getD (k * 4 + 1) 0) (D.getD (k * 4 + 2) 0) (D.getD (k * 4 + 3) 0) = 0 ∧ D.getD (k * 4 + 2) 0 > ep then IntKind.i64.wrap (wanC D ep k + D.getD (k * 4 + 3) 0) else wanC D ep k := by rw [wanC]
      have fin : ∀ w, w = wanC D ep (k + 1) → pnN D ep n cp k (runC D (k + 1)) w := fun w hw => ⟨hkn, pnSt_le D ep hcp (by rw [wrap_i64 _ (by omega) (by omega)]; omega) hw rfl rfl trivial⟩
      have G : pnG D ep n cp k := by
        unfold pnG pnC
        refine ⟨runC D k, rfl, by rw [hq]; exact hV.okq, ?_⟩
        rw [hidx 1, hidx 2, hidx 3, ← hs1]
        have yes : (chgE (runC D k) (D.getD (k * 4 + 1) 0) (D.getD (k * 4 + 2) 0) (D.getD (k * 4 + 3) 0) == 0) = true → pnX D ep n cp k (runC D (k + 1)) := fun h0 => by
          rw [beq_iff_eq] at h0
          unfold pnX
          rw [hidx 2, hidx 3]
          refine ml (by omega) (bc_mk (fun h2 => mi (ml (by omega) (fin _ ?_))) fun h2 => fin _ ?_)
          · have h2 : decide (D.getD (k * 4 + 2) 0 > ep) = true := h2
            rw [hs2, if_pos ⟨h0, of_decide_eq_true h2⟩]
          · have h2 : decide (D.getD (k * 4 + 2) 0 > ep) = false := h2
            rw [hs2, if_neg (fun h => of_decide_eq_false h2 h.2)]
        have no : (chgE (runC D k) (D.getD (k * 4 + 1) 0) (D.getD (k * 4 + 2) 0) (D.getD (k * 4 + 3) 0) == 0) = false → pnN D ep n cp k (runC D (k + 1)) (wanC D ep k) := fun h0 => by
          rw [beq_eq_false_iff_ne] at h0
          exact fin _ (by rw [hs2, if_neg (fun h => h0 h.1)])
        have y5 : ∀ {X : Prop}, X → pnY n k X := fun hX => ⟨⟨mi ⟨⟨hX, hX⟩, hX⟩, mi hX⟩, mi hX⟩
        have z5 : ∀ {X : Prop}, X → pnZ X := fun hX => ⟨⟨⟨⟨hX, hX⟩, hX⟩, hX⟩, hX⟩
        exact ⟨bc_mk (fun h => y5 (yes h)) fun h => z5 (no h), bc_mk (fun h => y5 (yes h)) fun h => z5 (no h), bc_mk (fun h => ⟨mi (yes h), mi (yes h)⟩) fun h => ⟨no h, no h⟩⟩
      exact mi (mi (mi (ml (by omega) ⟨ml (by omega) (ml (by omega) (me (ml (by omega) (ml (by omega) (me G))))), ml (by omega) (ml (by omega) (me (ml (by omega) (ml (by omega) (me G)))))⟩)))
    · rw [hq, hw]; exact pnE_mk hV he rfl
  · exact h.elim

end Go.Proofs.Ytahkneobmekokaa.Sx
