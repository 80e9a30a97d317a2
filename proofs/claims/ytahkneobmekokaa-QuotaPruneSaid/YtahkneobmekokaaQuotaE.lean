/- The quota: all that goes of an account. No condition. -/
import Derived.Test.YtahkneobmekokaaSx12
import Derived.Test.YtahkneobmekokaaProg
import Derived.Test.YtahkneobmekokaaBase
import Derived.Test.YtahkneobmekokaaQuota0
import Derived.Test.YtahkneobmekokaaQuotaA
import Derived.Test.YtahkneobmekokaaQuotaB
import Derived.Test.YtahkneobmekokaaQuotaC
import Derived.Test.YtahkneobmekokaaQuotaD
namespace Go.Proofs.Ytahkneobmekokaa.Sx
open Go Go.Proofs
set_option maxRecDepth 100000
set_option linter.unusedSimpArgs false
set_option linter.unusedVariables false

def kc (l : List Int) (e : Int) : Nat → Nat
  | 0 => 0
  | j + 1 => if goB l e j = true then kc l e j else kc l e j + 1
def kp (l : List Int) (e : Int) : Nat → List Int
  | 0 => []
  | j + 1 => if goB l e j = true then kp l e j else kp l e j ++ [l.getD (j * 2) 0, l.getD (j * 2 + 1) 0]
def cur (l : List Int) (e : Int) (j : Nat) : List Int := kp l e j ++ l.drop (kc l e j * 2)
def bW (l : List Int) (e b : Int) : Nat → Int
  | 0 => b
  | j + 1 => if goB l e j = true then IntKind.i64.wrap (bW l e b j - l.getD (j * 2 + 1) 0) else bW l e b j
def cW (l : List Int) (e k : Int) : Nat → Int
  | 0 => k
  | j + 1 => if goB l e j = true then IntKind.i64.wrap (cW l e k j + 1) else cW l e k j
def dlEnv (n : Nat) (i j : Int) : Env := [(6, .v (.int .i64 j)), (5, .v (.int .i64 i)), (0, .slc 0 0 n n 2), (1, fnP)]
def dlSt (c : Nat) (q : QS) (e : Int) (i j : Int) (l : List Int) (b k : Int) : St := ⟨dlEnv (q.n c) i j, 42, tblD c (setQ q c l (q.n c) b) e k, [], 20⟩
def dlSh (c : Nat) (q : QS) (e k : Int) (J : Nat) : St := dlSt c q e (kc (q.L c) e J : Int) (J : Int) (cur (q.L c) e J) (bW (q.L c) e (q.B c) J) (cW (q.L c) e k J)
def dlI (c : Nat) (q : QS) (e k : Int) : Nat → St → LK := fun id st => match id with
  | 0 => .inv (q.n c - (gN (q.L c) e (q.n c) + 1)) fun r => dlSh c q e k (gN (q.L c) e (q.n c) + 1 + r)
  | _ => .unroll 20
def dlC (c : Nat) (q : QS) (e k : Int) (N r J : Nat) (i : Int) (l : List Int) (b k' : Int) : Prop :=
  r < N ∧ stLe (dlSt c q e i (IntKind.i64.wrap ((J : Int) + 1)) l b k') (dlSh c q e k (gN (q.L c) e (q.n c) + 1 + (r + 1))) True
def dlX (c : Nat) (q : QS) (e k : Int) (N r J : Nat) (x y b k' : Int) (g : Bool) : Prop :=
  bc (!g) (ob (true && decide ((kc (q.L c) e J : Int) < (q.n c : Int))) (ob (decide (0 + (kc (q.L c) e J : Int).toNat * 2 + 2 ≤ (cur (q.L c) e J).length))
      (dlC c q e k N r J (IntKind.i64.wrap ((kc (q.L c) e J : Int) + 1)) (putAt (cur (q.L c) e J) (0 + (kc (q.L c) e J : Int).toNat * 2) [x, y]) b k')))
    (dlC c q e k N r J (kc (q.L c) e J : Int) (cur (q.L c) e J) b k')
def dlR (c : Nat) (q : QS) (e k : Int) (K : SV → List Blk → List Nat → Prop) (N r J : Nat) (x y : Int) : Prop :=
  bc (decide ((J : Int) < (q.n c : Int))) (ob (true && decide ((J : Int) < (q.n c : Int))) (ob (decide (0 + (J : Int).toNat * 2 + 2 ≤ (cur (q.L c) e J).length))
      (bc (decide (x ≤ e)) (dlX c q e k N r J x y (IntKind.i64.wrap (bW (q.L c) e (q.B c) J - y)) (IntKind.i64.wrap (cW (q.L c) e k J + 1)) (decide (x ≤ e)))
        (dlX c q e k N r J x y (bW (q.L c) e (q.B c) J) (cW (q.L c) e k J) (decide (x ≤ e))))))
    (ob (true && decide ((kc (q.L c) e J : Int) ≤ (q.n c : Int))) (ob (((q.n c - (kc (q.L c) e J : Int).toNat) * 2).ble (List.replicate ((q.n c - (kc (q.L c) e J : Int).toNat) * 2) (0 : Int)).length && (0 + (kc (q.L c) e J : Int).toNat * 2 + (q.n c - (kc (q.L c) e J : Int).toNat) * 2).ble (cur (q.L c) e J).length)
      (ob (true && decide ((kc (q.L c) e J : Int) ≤ (q.n c : Int))) (K (.slc 0 0 (kc (q.L c) e J : Int).toNat (q.n c) 2)
        (tblD c (setQ q c (putAt (cur (q.L c) e J) (0 + (kc (q.L c) e J : Int).toNat * 2) (List.take ((q.n c - (kc (q.L c) e J : Int).toNat) * 2) (List.replicate ((q.n c - (kc (q.L c) e J : Int).toNat) * 2) (0 : Int)))) (q.n c) (bW (q.L c) e (q.B c) J)) e (cW (q.L c) e k J)) []))))
def dlF (c : Nat) (q : QS) (e k : Int) (K : SV → List Blk → List Nat → Prop) : Prop :=
  ((tblD c q e k = tblD c q e k ∧ 30 = 30) ∧ q.n c = q.n c ∧ q.n c = q.n c) ∧
    bc (ixZ c q e == -1) (K (.slc 0 0 (q.n c) (q.n c) 2) (tblD c (setQ q c (q.L c) (q.n c) (ixB c q e)) e (ixK c q e k)) [])
      (stLe (dlSt c q e (ixZ c q e) (IntKind.i64.wrap (ixZ c q e + 1)) (q.L c) (ixB c q e) (ixK c q e k)) (dlSh c q e k (gN (q.L c) e (q.n c) + 1 + 0))
        (∀ r : Nat, r ≤ q.n c - (gN (q.L c) e (q.n c) + 1) → dlR c q e k K (q.n c - (gN (q.L c) e (q.n c) + 1)) r (gN (q.L c) e (q.n c) + 1 + r)
          ((cur (q.L c) e (gN (q.L c) e (q.n c) + 1 + r)).getD (0 + ((gN (q.L c) e (q.n c) + 1 + r : Nat) : Int).toNat * 2 + 0) 0) ((cur (q.L c) e (gN (q.L c) e (q.n c) + 1 + r)).getD (0 + ((gN (q.L c) e (q.n c) + 1 + r : Nat) : Int).toNat * 2 + 1) 0)))
theorem dl_vf (q : QS) (e k : Int) (K : SV → List Blk → List Nat → Prop) : ∀ c : Nat, c < 16 → (vf Try.prog [(30, iqP1), (34, ixP c q e k)] (dlI c q e k) Try.f29 [.slc 0 0 (q.n c) (q.n c) 2, fnP] (tblD c q e k) fun s t m => K s (t.take 20) m) = dlF c q e k K
  | 0, _ => by kernel_rfl
  | 1, _ => by kernel_rfl
  | 2, _ => by kernel_rfl
  | 3, _ => by kernel_rfl
  | 4, _ => by kernel_rfl
  | 5, _ => by kernel_rfl
  | 6, _ => by kernel_rfl
  | 7, _ => by kernel_rfl
  | 8, _ => by kernel_rfl
  | 9, _ => by kernel_rfl
  | 10, _ => by kernel_rfl
  | 11, _ => by kernel_rfl
  | 12, _ => by kernel_rfl
  | 13, _ => by kernel_rfl
  | 14, _ => by kernel_rfl
  | 15, _ => by kernel_rfl
  | n + 16, h => absurd h (by omega)
theorem dlSt_le {c : Nat} (hc : c < 16) (q : QS) (e : Int) {i i' j j' : Int} {l l' : List Int} {b b' k k' : Int} (h1 : i = i') (h2 : j = j') (h3 : l = l') (h4 : b = b') (h5 : k = k') {K : Prop} (h : K) : stLe (dlSt c q e i j l b k) (dlSt c q e i' j' l' b' k') K := by
  subst h1 h2 h3 h4 h5
  unfold stLe dlSt
  simp only [lenD _ _ _ c hc, ltD _ _ _ c hc]
  have e1 : Nat.beq 42 42 = true := rfl
  have e2 : Nat.beq 20 20 = true := rfl
  have e3 : Nat.ble 20 20 = true := rfl
  have e4 : subB [] [] = true := rfl
  have e5 : (envLt 20 (dlEnv (q.n c) i j) && true) = true := rfl
  simp only [e1, e2, e3, e4, e5]
  simp only [dlEnv, envLeK, look, Nat.reduceBEq, Nat.beq_eq_true_eq, fnP]
  have key : ∀ (s : SV) (K : Prop), s.okS → K → SV.leK s s K := leK_self
  refine key _ _ (by simp [SV.okS]) (key _ _ (by simp [SV.okS]) (key _ _ (by simp [SV.okS]) (key _ _ (by simp [SV.okS, SV.okSL]) (tblLeK_self _ _ (okD c _ e k) h))))
theorem kc_le (l : List Int) (e : Int) : ∀ j, kc l e j ≤ j
  | 0 => by rw [kc]; exact Nat.le_refl _
  | j + 1 => by
    have := kc_le l e j
    rw [kc]; split <;> omega
theorem kp_len (l : List Int) (e : Int) : ∀ j, (kp l e j).length = kc l e j * 2
  | 0 => by rw [kp, kc]; rfl
  | j + 1 => by
    have := kp_len l e j
    rw [kp, kc]
    split
    · exact this
    · simp; omega
theorem cur_len (l : List Int) (e : Int) (j : Nat) (h : j * 2 ≤ l.length) : (cur l e j).length = l.length := by
  have := kp_len l e j
  have := kc_le l e j
  rw [cur]; simp; omega
theorem cur_get (l : List Int) (e : Int) (j d : Nat) : (cur l e j).getD (j * 2 + d) 0 = l.getD (j * 2 + d) 0 := by
  have h1 := kp_len l e j
  have h2 := kc_le l e j
  rw [cur, List.getD_eq_getElem?_getD, List.getElem?_append_right (by omega), List.getElem?_drop, h1, List.getD_eq_getElem?_getD]
  congr 2
  omega
theorem take_pair (l : List Int) (j : Nat) (h : j * 2 + 2 ≤ l.length) : l.take (j * 2) ++ [l.getD (j * 2) 0, l.getD (j * 2 + 1) 0] = l.take ((j + 1) * 2) := by
  rw [show (j + 1) * 2 = j * 2 + 1 + 1 by omega, List.take_succ_eq_append_getElem (by omega), List.take_succ_eq_append_getElem (by omega), List.append_assoc]
  congr 1
  rw [List.getD_eq_getElem?_getD, List.getD_eq_getElem?_getD, List.getElem?_eq_getElem (by omega), List.getElem?_eq_getElem (by omega)]
  rfl
theorem kp_first (l : List Int) (e : Int) (g : Nat) (hg : ∀ k, k < g → goB l e k = false) (hl : g * 2 ≤ l.length) : ∀ j, j ≤ g → kp l e j = l.take (j * 2) ∧ kc l e j = j
  | 0, _ => by rw [kp, kc]; simp
  | j + 1, h => by
    obtain ⟨h1, h2⟩ := kp_first l e g hg hl j (by omega)
    have h3 := hg j (by omega)
    rw [kp, kc, h3, h1, h2]
    simp only [Bool.false_eq_true, if_false]
    exact ⟨take_pair l j (by omega), trivial⟩
theorem bW_first (l : List Int) (e b : Int) (g : Nat) (hg : ∀ k, k < g → goB l e k = false) : ∀ j, j ≤ g → bW l e b j = b
  | 0, _ => by rw [bW]
  | j + 1, h => by rw [bW, hg j (by omega)]; exact bW_first l e b g hg j (by omega)
theorem cW_first (l : List Int) (e k : Int) (g : Nat) (hg : ∀ k, k < g → goB l e k = false) : ∀ j, j ≤ g → cW l e k j = k
  | 0, _ => by rw [cW]
  | j + 1, h => by rw [cW, hg j (by omega)]; exact cW_first l e k g hg j (by omega)
theorem cur_keep (l : List Int) (e : Int) (j : Nat) (hj : goB l e j = false) (hl : j * 2 + 2 ≤ l.length) : putAt (cur l e j) (kc l e j * 2) [l.getD (j * 2) 0, l.getD (j * 2 + 1) 0] = cur l e (j + 1) := by
  have h1 := kp_len l e j
  have h2 := kc_le l e j
  have e1 : kp l e (j + 1) = kp l e j ++ [l.getD (j * 2) 0, l.getD (j * 2 + 1) 0] := by rw [kp, hj]; rfl
  have e2 : kc l e (j + 1) = kc l e j + 1 := by rw [kc, hj]; rfl
  rw [cur, cur, e1, e2]
  unfold putAt
  rw [List.take_left' h1, List.drop_append, h1, List.drop_of_length_le (by rw [h1]; omega), List.nil_append, List.drop_drop]
  congr 2
  simp; omega
theorem cur_go (l : List Int) (e : Int) (j : Nat) (hj : goB l e j = true) : cur l e j = cur l e (j + 1) := by
  rw [cur, cur]
  have e1 : kp l e (j + 1) = kp l e j := by rw [kp, hj]; rfl
  have e2 : kc l e (j + 1) = kc l e j := by rw [kc, hj]; rfl
  rw [e1, e2]
theorem accD_setL (c : Nat) (q : QS) (l l' : List Int) (n : Nat) (b : Int) : ∀ r, accD c (setQ q c l n b) r = accD c (setQ q c l' n b) r
  | [] => by simp only [accD]
  | i :: r => by
    simp only [accD]
    rw [accD_setL c q l l' n b r]
    rfl
theorem accX_setL (c : Nat) (q : QS) (l l' : List Int) (n : Nat) (b : Int) : ∀ r, accX c (setQ q c l n b) r = accX c (setQ q c l' n b) r
  | [] => by simp only [accX]
  | i :: r => by
    simp only [accX]
    rw [accX_setL c q l l' n b r]
    split
    · rfl
    · rename_i h
      have e1 : ∀ l, (setQ q c l n b).L i = q.L i := fun l => by simp [setQ, h]
      rw [e1, e1]
/-- Less is told of the account's memory. -/
theorem tblD_le (c : Nat) (q : QS) (l l' : List Int) (n : Nat) (b e k : Int) (h : l' <+: l) : tblLe (tblD c (setQ q c l n b) e k) (tblD c (setQ q c l' n b) e k) := by
  have h2 := okD c (setQ q c l' n b) e k
  simp only [tblD] at h2 ⊢
  rw [setQ_L, setQ_L, accD_setL c q l l' n b, accX_setL c q l l' n b]
  simp only [okST] at h2
  refine ⟨?_, tblLe_self _ h2.2⟩
  simp only [blkLe]
  exact ⟨fun h => h, trivial, h⟩
/-- What goes of account c, of this memory. -/
def dlP (c : Nat) (q : QS) (e k : Int) : Spec := .m fun args blks K => match args with
  | [.slc 0 0 n m 2, .fn f [] [.ptr 1 0, .ptr 2 0, .ptr 3 0]] => ((blks = tblD c q e k ∧ f = 30) ∧ n = q.n c ∧ m = q.n c) ∧ K (.slc 0 0 (kc (q.L c) e (q.n c)) (kc (q.L c) e (q.n c)) 2) (tblD c (setQ q c (kp (q.L c) e (q.n c)) (q.n c) (bW (q.L c) e (q.B c) (q.n c))) e (cW (q.L c) e k (q.n c))) []
  | _ => False
set_option maxHeartbeats 2000000 in
theorem dlP_ok (c : Nat) (q : QS) (e k : Int) (hc : c < 16) (hq : okQ q) : SpecOK Try.prog 29 (dlP c q e k) := by
  refine ⟨enters_of Try.func29 rfl rfl, fun args blks K h => ?_⟩
  simp only at h
  split at h
  · rename_i n m f
    obtain ⟨⟨⟨rfl, rfl⟩, rfl, rfl⟩, hK⟩ := h
    refine FnOK.le (FnOK.trimQ 20 (by rw [lenD _ _ _ c hc]; exact Nat.le_refl _) (FnOK.of_vf (I := dlI c q e k) mixed (.cons iqP1_ok (.cons (ixP_ok c q e k hc hq) .nil)) Try.func29 ?_))
    have hv := dl_vf q e k (fun s t m => ∃ m', ((s.lt 20 && tblLt 20 t) && (Nat.beq t.length 20 && subB m m')) = true ∧ ∃ s' t' m'', SV.le s s' ∧ tblLe t t' ∧ (s'.lt t'.length && tblLt t'.length t' && Nat.ble (tblD c q e k).length t'.length && subB m' m'') = true ∧ K s' t' m'') c hc
    unfold fnP at hv
    rw [hv]
    have okq := hq
    rw [okQ] at hq
    have hl := hq.2 c
    have hgl := gN_le (q.L c) e (q.n c)
    have hgn := gN_no (q.L c) e (q.n c)
    -- the end
    have fin : ∀ (x : Nat) (l' : List Int), kp (q.L c) e (q.n c) <+: l' → kc (q.L c) e (q.n c) ≤ x → 
        ∃ m', ((SV.lt 20 (.slc 0 0 (kc (q.L c) e (q.n c)) x 2) && tblLt 20 (tblD c (setQ q c l' (q.n c) (bW (q.L c) e (q.B c) (q.n c))) e (cW (q.L c) e k (q.n c)))) && (Nat.beq (tblD c (setQ q c l' (q.n c) (bW (q.L c) e (q.B c) (q.n c))) e (cW (q.L c) e k (q.n c))).length 20 && subB [] m')) = true ∧
          ∃ s' t' m'', SV.le (.slc 0 0 (kc (q.L c) e (q.n c)) x 2) s' ∧ tblLe (tblD c (setQ q c l' (q.n c) (bW (q.L c) e (q.B c) (q.n c))) e (cW (q.L c) e k (q.n c))) t' ∧ (s'.lt t'.length && tblLt t'.length t' && Nat.ble (tblD c q e k).length t'.length && subB m' m'') = true ∧ K s' t' m'' := fun x l' hp hx => by
      refine ⟨[], by rw [ltD _ _ _ c hc, lenD _ _ _ c hc]; rfl, _, _, [], ?_, tblD_le c q l' _ (q.n c) _ e _ hp, by rw [lenD _ _ _ c hc, lenD _ _ _ c hc, ltD _ _ _ c hc]; rfl, hK⟩
      simp only [SV.le]; exact ⟨trivial, trivial, trivial, hx, Nat.le_refl _, trivial⟩
    unfold dlF
    refine ⟨⟨⟨rfl, rfl⟩, rfl, rfl⟩, bc_mk (fun h1 => ?_) fun h1 => ?_⟩
    · have hge : ¬ gN (q.L c) e (q.n c) < q.n c := fun hlt => by rw [ixZ, if_pos hlt, beq_iff_eq] at h1; omega
      have hgg : gN (q.L c) e (q.n c) = q.n c := by omega
      obtain ⟨f1, f2⟩ := kp_first (q.L c) e (q.n c) (by rw [hgg] at hgn; exact hgn) (by omega) (q.n c) (Nat.le_refl _)
      have f3 := bW_first (q.L c) e (q.B c) (q.n c) (by rw [hgg] at hgn; exact hgn) (q.n c) (Nat.le_refl _)
      have f4 := cW_first (q.L c) e k (q.n c) (by rw [hgg] at hgn; exact hgn) (q.n c) (Nat.le_refl _)
      have := fin (q.n c) (q.L c) (by rw [f1]; exact List.take_prefix _ _) (by omega)
      rw [f2, f3, f4] at this
      rw [ixB, ixK, if_neg hge, if_neg hge]
      exact this
    · have hlt : gN (q.L c) e (q.n c) < q.n c := by
        rcases Nat.lt_or_ge (gN (q.L c) e (q.n c)) (q.n c) with h2 | h2
        · exact h2
        · rw [ixZ, if_neg (by omega)] at h1; cases h1
      have hz : ixZ c q e = (gN (q.L c) e (q.n c) : Int) := by rw [ixZ, if_pos hlt]
      have hgy := gN_yes (q.L c) e (q.n c) hlt
      generalize hg : gN (q.L c) e (q.n c) = g at *
      obtain ⟨f1, f2⟩ := kp_first (q.L c) e g hgn (by omega) g (Nat.le_refl _)
      have f3 := bW_first (q.L c) e (q.B c) g hgn g (Nat.le_refl _)
      have f4 := cW_first (q.L c) e k g hgn g (Nat.le_refl _)
      have g1 : kc (q.L c) e (g + 1) = g := by rw [kc, hgy, if_pos rfl, f2]
      have g2 : cur (q.L c) e (g + 1) = q.L c := by rw [← cur_go _ _ _ hgy, cur, f1, f2, List.take_append_drop]
      have g3 : bW (q.L c) e (q.B c) (g + 1) = ixB c q e := by rw [bW, hgy, if_pos rfl, f3, ixB, hg, if_pos hlt]
      have g4 : cW (q.L c) e k (g + 1) = ixK c q e k := by rw [cW, hgy, if_pos rfl, f4, ixK, hg, if_pos hlt]
      unfold dlSh
      refine dlSt_le hc q e (by rw [hz, Nat.add_zero, g1]) (by rw [hz, wrap_i64 _ (by omega) (by omega)]; omega) (by rw [Nat.add_zero, g2]) (by rw [Nat.add_zero, g3]) (by rw [Nat.add_zero, g4]) ?_
      intro r hr
      generalize hJ : g + 1 + r = J
      have hJn : J ≤ q.n c := by omega
      have hcl : (cur (q.L c) e J).length = (q.L c).length := cur_len _ _ _ (by omega)
      have hkc := kc_le (q.L c) e J
      rw [Int.toNat_natCast, Nat.zero_add, cur_get, cur_get]
      have hgo : decide ((q.L c).getD (J * 2 + 0) 0 ≤ e) = goB (q.L c) e J := by rw [goB]; rfl
      have hw : IntKind.i64.wrap ((J : Int) + 1) = ((J + 1 : Nat) : Int) := by rw [wrap_i64 _ (by omega) (by omega)]; omega
      have hJ1 : g + 1 + (r + 1) = J + 1 := by omega
      unfold dlR
      refine bc_mk (fun h2 => ?_) fun h2 => ?_
      · have h2 := of_decide_eq_true h2
        refine ob_mk (by rw [Bool.true_and]; exact decide_eq_true h2) (ob_mk (decide_eq_true (by rw [Int.toNat_natCast]; omega)) ?_)
        rw [hgo]
        refine bc_mk (fun h3 => ?_) fun h3 => ?_
        · rw [h3]
          unfold dlX dlC
          refine bc_mk (fun h4 => by cases h4) fun _ => ⟨by omega, ?_⟩
          rw [hg, hJ1]; unfold dlSh
          exact dlSt_le hc q e (by rw [kc, h3]; rfl) hw (cur_go _ _ _ h3) (by rw [bW, h3]; rfl) (by rw [cW, h3]; rfl) trivial
        · rw [h3]
          unfold dlX dlC
          refine bc_mk (fun _ => ?_) fun h4 => by cases h4
          refine ob_mk (by rw [Bool.true_and]; exact decide_eq_true (by omega)) (ob_mk (decide_eq_true (by rw [Int.toNat_natCast]; omega)) ⟨by omega, ?_⟩)
          rw [hg, hJ1]; unfold dlSh
          refine dlSt_le hc q e ?_ hw ?_ (by rw [bW, h3]; rfl) (by rw [cW, h3]; rfl) trivial
          · rw [kc, h3, wrap_i64 _ (by omega) (by omega)]; simp
          · rw [Int.toNat_natCast, Nat.zero_add]
            exact cur_keep _ _ _ h3 (by omega)
      · have h2 := of_decide_eq_false h2
        have hJe : J = q.n c := by omega
        subst hJe
        rw [Int.toNat_natCast, Nat.zero_add]
        refine ob_mk (by rw [Bool.true_and]; exact decide_eq_true (by omega)) (ob_mk ?_ (ob_mk (by rw [Bool.true_and]; exact decide_eq_true (by omega)) ?_))
        · rw [Bool.and_eq_true, Nat.ble_eq, Nat.ble_eq, List.length_replicate, hcl]; omega
        · refine fin (q.n c) _ ?_ (by omega)
          unfold putAt
          rw [cur, List.take_left' (kp_len _ _ _), List.append_assoc]
          exact List.prefix_append _ _
  · exact h.elim

end Go.Proofs.Ytahkneobmekokaa.Sx
