/- The quota: what is pruned of an account. No condition. -/
import Derived.Test.YtahkneobmekokaaSx12
import Derived.Test.YtahkneobmekokaaProg
import Derived.Test.YtahkneobmekokaaBase
import Derived.Test.YtahkneobmekokaaQuota0
import Derived.Test.YtahkneobmekokaaQuotaA
import Derived.Test.YtahkneobmekokaaQuotaB
import Derived.Test.YtahkneobmekokaaQuotaC
namespace Go.Proofs.Ytahkneobmekokaa.Sx
open Go Go.Proofs
set_option maxRecDepth 100000
set_option linter.unusedSimpArgs false
set_option linter.unusedVariables false

def pd (c i : Nat) : Nat := match Nat.beq i c with
  | true => 0
  | false => match Nat.ble i c with
    | true => 5 + i
    | false => 4 + i
def accD (c : Nat) (q : QS) : List Nat → List SV
  | [] => []
  | i :: r => .slc (pd c i) 0 (q.n i) (q.n i) 2 :: .v (.int .i64 (q.B i)) :: accD c q r
def accX (c : Nat) (q : QS) : List Nat → List Blk
  | [] => []
  | i :: r => match Nat.beq i c with
    | true => accX c q r
    | false => .ints true .i64 (q.L i) :: accX c q r
/-- The memory that a pruning of account c looks at. -/
def tblD (c : Nat) (q : QS) (e k : Int) : List Blk := .ints true .i64 (q.L c) :: .ints true .i64 [e] :: .ints true .i64 [k] :: .cells true [.ptr 4 (3 + c * 2)] :: .cells true (.v (.int .i64 q.sp) :: .v (.int .i64 q.fi) :: .v (.int .i64 q.pr) :: accD c q r16) :: accX c q r16
def fnP : SV := .fn 30 [] [.ptr 1 0, .ptr 2 0, .ptr 3 0]
/-! The first that goes -/
def goB (l : List Int) (e : Int) (k : Nat) : Bool := decide (l.getD (k * 2) 0 ≤ e)
def gN (l : List Int) (e : Int) : Nat → Nat
  | 0 => 0
  | k + 1 => if gN l e k = k ∧ goB l e k = false then k + 1 else gN l e k
def ixEnv (n : Nat) (j : Int) : Env := [(8, .v (.int .i64 j)), (0, .slc 0 0 n n 2), (1, fnP), (7, .v (.int .i64 (n : Int)))]
def ixSt (n : Nat) (j : Int) (t : List Blk) : St := ⟨ixEnv n j, 19, t, [], 20⟩
def ixI (c : Nat) (q : QS) (e k : Int) : Nat → St → LK := fun id st => match id with
  | 0 => .inv (gN (q.L c) e (q.n c)) fun j => ixSt (q.n c) (j : Int) (tblD c q e k)
  | _ => .unroll 20
def ixF (c : Nat) (q : QS) (e k : Int) (K : SV → List Blk → List Nat → Prop) : Prop :=
  stLe (ixSt (q.n c) 0 (tblD c q e k)) (ixSt (q.n c) ((0 : Nat) : Int) (tblD c q e k)) (∀ j : Nat, j ≤ gN (q.L c) e (q.n c) →
    bc (decide ((j : Int) < (q.n c : Int)))
      (ob (true && decide ((j : Int) < (q.n c : Int))) (ob (decide (0 + (j : Int).toNat * 2 + 2 ≤ (q.L c).length))
        (bc (decide ((q.L c).getD (0 + (j : Int).toNat * 2 + 0) 0 ≤ e))
          (bc (decide ((q.L c).getD (0 + (j : Int).toNat * 2 + 0) 0 ≤ e)) (K (.v (.int .i64 j)) (tblD c (setQ q c (q.L c) (q.n c) (IntKind.i64.wrap (q.B c - (q.L c).getD (0 + (j : Int).toNat * 2 + 1) 0))) e (IntKind.i64.wrap (k + 1))) [])
            (j < gN (q.L c) e (q.n c) ∧ stLe (ixSt (q.n c) (IntKind.i64.wrap ((j : Int) + 1)) (tblD c (setQ q c (q.L c) (q.n c) (IntKind.i64.wrap (q.B c - (q.L c).getD (0 + (j : Int).toNat * 2 + 1) 0))) e (IntKind.i64.wrap (k + 1)))) (ixSt (q.n c) ((j + 1 : Nat) : Int) (tblD c q e k)) True))
          (bc (decide ((q.L c).getD (0 + (j : Int).toNat * 2 + 0) 0 ≤ e)) (K (.v (.int .i64 j)) (tblD c q e k) [])
            (j < gN (q.L c) e (q.n c) ∧ stLe (ixSt (q.n c) (IntKind.i64.wrap ((j : Int) + 1)) (tblD c q e k)) (ixSt (q.n c) ((j + 1 : Nat) : Int) (tblD c q e k)) True)))))
      (K (.v (.int .i64 (-1))) (tblD c q e k) []))
theorem ix_vf (q : QS) (e k : Int) (K : SV → List Blk → List Nat → Prop) : ∀ c : Nat, c < 16 → (vf Try.prog [(30, iqP1)] (ixI c q e k) Try.f34 [.slc 0 0 (q.n c) (q.n c) 2, fnP] (tblD c q e k) fun s t m => K s (t.take 20) m) = ixF c q e k K
  | 0, _ => by kernel_rfl
  | 1, _ => by kernel_rfl
  | 2, _ => by kernel_rfl
  | 3, _ => by kernel_rfl
  | 4, _ => by kernel_rfl
  | 5, _ => by kernel_rfl
  | 6, _ => by kernel_rfl
  | 7, _ => by kernel_rfl
  | 8, _ => by kernel_rfl
  | 9, _ => by kernel_rfl
  | 10, _ => by kernel_rfl
  | 11, _ => by kernel_rfl
  | 12, _ => by kernel_rfl
  | 13, _ => by kernel_rfl
  | 14, _ => by kernel_rfl
  | 15, _ => by kernel_rfl
  | n + 16, h => absurd h (by omega)
def ixB (c : Nat) (q : QS) (e : Int) : Int := if gN (q.L c) e (q.n c) < q.n c then IntKind.i64.wrap (q.B c - (q.L c).getD (gN (q.L c) e (q.n c) * 2 + 1) 0) else q.B c
def ixK (c : Nat) (q : QS) (e k : Int) : Int := if gN (q.L c) e (q.n c) < q.n c then IntKind.i64.wrap (k + 1) else k
def ixZ (c : Nat) (q : QS) (e : Int) : Int := if gN (q.L c) e (q.n c) < q.n c then (gN (q.L c) e (q.n c) : Int) else -1
/-- What is found in account c, of this memory. -/
def ixP (c : Nat) (q : QS) (e k : Int) : Spec := .m fun args blks K => match args with
  | [.slc 0 0 n m 2, .fn f [] [.ptr 1 0, .ptr 2 0, .ptr 3 0]] => ((blks = tblD c q e k ∧ f = 30) ∧ n = q.n c ∧ m = q.n c) ∧ K (.v (.int .i64 (ixZ c q e))) (tblD c (setQ q c (q.L c) (q.n c) (ixB c q e)) e (ixK c q e k)) []
  | _ => False
theorem accD_ok (c : Nat) (q : QS) : ∀ r, SV.okSL (accD c q r)
  | [] => by simp only [accD, SV.okSL]
  | i :: r => by
    simp only [accD, SV.okSL, SV.okS]
    exact ⟨Nat.le_refl _, trivial, accD_ok c q r⟩
theorem accX_ok (c : Nat) (q : QS) : ∀ r, okST (accX c q r)
  | [] => by simp only [accX, okST]
  | i :: r => by
    simp only [accX]
    split
    · exact accX_ok c q r
    · simp only [okST, Blk.okS]; exact ⟨trivial, accX_ok c q r⟩
theorem okD (c : Nat) (q : QS) (e k : Int) : okST (tblD c q e k) := by
  simp only [tblD, okST, Blk.okS, SV.okSL, SV.okS]
  exact ⟨trivial, trivial, trivial, ⟨trivial, trivial⟩, ⟨trivial, trivial, trivial, accD_ok c q _⟩, accX_ok c q _⟩
theorem ltD (q : QS) (e k : Int) : ∀ c, c < 16 → tblLt 20 (tblD c q e k) = true
  | 0, _ => by kernel_rfl
  | 1, _ => by kernel_rfl
  | 2, _ => by kernel_rfl
  | 3, _ => by kernel_rfl
  | 4, _ => by kernel_rfl
  | 5, _ => by kernel_rfl
  | 6, _ => by kernel_rfl
  | 7, _ => by kernel_rfl
  | 8, _ => by kernel_rfl
  | 9, _ => by kernel_rfl
  | 10, _ => by kernel_rfl
  | 11, _ => by kernel_rfl
  | 12, _ => by kernel_rfl
  | 13, _ => by kernel_rfl
  | 14, _ => by kernel_rfl
  | 15, _ => by kernel_rfl
  | n + 16, h => absurd h (by omega)
theorem lenD (q : QS) (e k : Int) : ∀ c, c < 16 → (tblD c q e k).length = 20
  | 0, _ => by kernel_rfl
  | 1, _ => by kernel_rfl
  | 2, _ => by kernel_rfl
  | 3, _ => by kernel_rfl
  | 4, _ => by kernel_rfl
  | 5, _ => by kernel_rfl
  | 6, _ => by kernel_rfl
  | 7, _ => by kernel_rfl
  | 8, _ => by kernel_rfl
  | 9, _ => by kernel_rfl
  | 10, _ => by kernel_rfl
  | 11, _ => by kernel_rfl
  | 12, _ => by kernel_rfl
  | 13, _ => by kernel_rfl
  | 14, _ => by kernel_rfl
  | 15, _ => by kernel_rfl
  | n + 16, h => absurd h (by omega)
theorem setQ_id (q : QS) (c : Nat) : setQ q c (q.L c) (q.n c) (q.B c) = q := by
  have h : ∀ {α : Type} (f : Nat → α), (fun i => match Nat.beq i c with | true => f c | false => f i) = f := fun f => by
    funext i
    split
    · rename_i h; rw [Nat.eq_of_beq_eq_true h]
    · rfl
  show ({ sp := q.sp, fi := q.fi, pr := q.pr, L := _, n := _, B := _ } : QS) = q
  have e1 : (setQ q c (q.L c) (q.n c) (q.B c)).L = q.L := h q.L
  have e2 : (setQ q c (q.L c) (q.n c) (q.B c)).n = q.n := h q.n
  have e3 : (setQ q c (q.L c) (q.n c) (q.B c)).B = q.B := h q.B
  cases q
  simp only [setQ] at *
  rw [e1, e2, e3]
theorem setQ_L (q : QS) (c : Nat) (l : List Int) (n : Nat) (b : Int) : (setQ q c l n b).L c = l := by simp [setQ, nbeq]
theorem setQ_n (q : QS) (c : Nat) (l : List Int) (n : Nat) (b : Int) : (setQ q c l n b).n c = n := by simp [setQ, nbeq]
theorem setQ_B (q : QS) (c : Nat) (l : List Int) (n : Nat) (b : Int) : (setQ q c l n b).B c = b := by simp [setQ, nbeq]
theorem ixSt_le {c : Nat} (hc : c < 16) (q : QS) (e k : Int) (n : Nat) (j j' : Int) (hj : j = j') {K : Prop} (h : K) : stLe (ixSt n j (tblD c q e k)) (ixSt n j' (tblD c q e k)) K := by
  subst hj
  unfold stLe ixSt
  simp only [lenD q e k c hc, ltD q e k c hc]
  have e1 : Nat.beq 19 19 = true := rfl
  have e2 : Nat.beq 20 20 = true := rfl
  have e3 : Nat.ble 20 20 = true := rfl
  have e4 : subB [] [] = true := rfl
  have e5 : (envLt 20 (ixEnv n j) && true) = true := rfl
  simp only [e1, e2, e3, e4, e5]
  simp only [ixEnv, envLeK, look, Nat.reduceBEq, Nat.beq_eq_true_eq, fnP]
  have key : ∀ (s : SV) (K : Prop), s.okS → K → SV.leK s s K := leK_self
  refine key _ _ (by simp [SV.okS]) (key _ _ (by simp [SV.okS]) (key _ _ (by simp [SV.okS, SV.okSL]) (key _ _ (by simp [SV.okS]) (tblLeK_self _ _ (okD c q e k) h))))
theorem gN_le (l : List Int) (e : Int) : ∀ n, gN l e n ≤ n
  | 0 => by rw [gN]; exact Nat.le_refl _
  | n + 1 => by
    have := gN_le l e n
    rw [gN]; split <;> omega
theorem gN_no (l : List Int) (e : Int) : ∀ n k, k < gN l e n → goB l e k = false
  | 0, k, h => by rw [gN] at h; omega
  | n + 1, k, h => by
    rw [gN] at h
    split at h
    · rename_i hc
      by_cases hk : k = n
      · rw [hk]; exact hc.2
      · exact gN_no l e n k (by omega)
    · exact gN_no l e n k h
theorem gN_yes (l : List Int) (e : Int) : ∀ n, gN l e n < n → goB l e (gN l e n) = true
  | 0, h => by omega
  | n + 1, h => by
    rw [gN] at h ⊢
    split at h
    · omega
    · rename_i hc
      rw [if_neg hc]
      by_cases hk : gN l e n < n
      · exact gN_yes l e n hk
      · have : gN l e n = n := by have := gN_le l e n; omega
        rw [this]
        cases hm : goB l e n
        · exact absurd ⟨this, hm⟩ hc
        · rfl
theorem ixP_ok (c : Nat) (q : QS) (e k : Int) (hc : c < 16) (hq : okQ q) : SpecOK Try.prog 34 (ixP c q e k) := by
  refine ⟨enters_of Try.func34 rfl rfl, fun args blks K h => ?_⟩
  simp only at h
  split at h
  · rename_i n m f
    obtain ⟨⟨⟨rfl, rfl⟩, rfl, rfl⟩, hK⟩ := h
    refine FnOK.trimQ 20 (by rw [lenD _ _ _ c hc]; exact Nat.le_refl _) (FnOK.of_vf (I := ixI c q e k) mixed (.cons iqP1_ok .nil) Try.func34 ?_)
    have hv := ix_vf q e k (fun s t m => ∃ m', ((s.lt 20 && tblLt 20 t) && (Nat.beq t.length 20 && subB m m')) = true ∧ K s t m') c hc
    unfold fnP at hv
    rw [hv]
    have fin : ∀ (z : Int) (q' : QS) (k' : Int), K (.v (.int .i64 z)) (tblD c q' e k') [] → ∃ m', ((SV.lt 20 (.v (.int .i64 z)) && tblLt 20 (tblD c q' e k')) && (Nat.beq (tblD c q' e k').length 20 && subB [] m')) = true ∧ K (.v (.int .i64 z)) (tblD c q' e k') m' := fun z q' k' h =>
      ⟨[], by rw [ltD _ _ _ c hc, lenD _ _ _ c hc]; rfl, h⟩
    unfold ixF
    rw [okQ] at hq
    have hl := hq.2 c
    have hgl := gN_le (q.L c) e (q.n c)
    refine ixSt_le hc q e k _ _ _ rfl fun j hj => bc_mk (fun h1 => ?_) fun h1 => ?_
    · have h1 := of_decide_eq_true h1
      refine ob_mk (by rw [Bool.true_and]; exact decide_eq_true h1) (ob_mk (decide_eq_true (by rw [Int.toNat_natCast]; omega)) ?_)
      have hg : decide ((q.L c).getD (0 + (j : Int).toNat * 2 + 0) 0 ≤ e) = goB (q.L c) e j := by rw [goB, Int.toNat_natCast, Nat.zero_add, Nat.add_zero]
      rw [hg]
      have hw : IntKind.i64.wrap ((j : Int) + 1) = ((j + 1 : Nat) : Int) := by rw [wrap_i64 _ (by omega) (by omega)]; omega
      refine bc_mk (fun h2 => bc_mk (fun _ => ?_) fun h3 => ?_) fun h2 => bc_mk (fun h3 => ?_) fun _ => ?_
      · have e1 : j = gN (q.L c) e (q.n c) := by
          rcases Nat.lt_or_ge j (gN (q.L c) e (q.n c)) with h3 | h3
          · rw [gN_no _ _ _ j h3] at h2; cases h2
          · omega
        have hlt : gN (q.L c) e (q.n c) < q.n c := by omega
        rw [ixZ, ixB, ixK, if_pos hlt, if_pos hlt, if_pos hlt, ← e1] at hK
        rw [Int.toNat_natCast, Nat.zero_add]
        exact fin _ _ _ hK
      · rw [h2] at h3; cases h3
      · rw [h2] at h3; cases h3
      · have e1 : j < gN (q.L c) e (q.n c) := by
          rcases Nat.lt_or_ge j (gN (q.L c) e (q.n c)) with h3 | h3
          · exact h3
          · have e2 : j = gN (q.L c) e (q.n c) := by omega
            rw [e2, gN_yes _ _ _ (by omega)] at h2; cases h2
        exact ⟨e1, ixSt_le hc q e k _ _ _ hw trivial⟩
    · have h1 := of_decide_eq_false h1
      have hge : ¬ gN (q.L c) e (q.n c) < q.n c := by omega
      rw [ixZ, ixB, ixK, if_neg hge, if_neg hge, if_neg hge, setQ_id] at hK
      exact fin _ _ _ hK
  · exact h.elim

end Go.Proofs.Ytahkneobmekokaa.Sx
