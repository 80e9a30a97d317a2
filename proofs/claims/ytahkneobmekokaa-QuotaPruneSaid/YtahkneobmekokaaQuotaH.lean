/- The reference's quota: what is pruned, refunded. No condition. -/
import Derived.Test.YtahkneobmekokaaSx12
import Derived.Test.YtahkneobmekokaaProg
import Derived.Test.YtahkneobmekokaaBase
import Derived.Test.YtahkneobmekokaaQuota0
import Derived.Test.YtahkneobmekokaaQuotaA
import Derived.Test.YtahkneobmekokaaQuotaG
namespace Go.Proofs.Ytahkneobmekokaa.Sx
open Go Go.Proofs
set_option maxRecDepth 100000
set_option linter.unusedSimpArgs false
set_option linter.unusedVariables false

theorem kR_le (M : List Int) (e : Int) : ∀ k, kR M e k ≤ k
  | 0 => by rw [kR]; exact Nat.le_refl _
  | k + 1 => by
    have := kR_le M e k
    rw [kR]; split <;> omega
theorem pR_len (M : List Int) (e : Int) : ∀ k, (pR M e k).length = kR M e k * 3
  | 0 => by rw [pR, kR]; rfl
  | k + 1 => by
    have := pR_len M e k
    rw [pR, kR]
    split
    · simp; omega
    · exact this
def prRS : Spec := .m fun args blks K => match args, blks with
  | [.agg [.v (.int .i64 sp), .v (.int .i64 fi), .v (.int .i64 pr), .slc 0 0 m cp 3], .v (.int .i64 e)], [.ints false .i64 M] => ob (decide (M.length = m * 3) && (decide (m ≤ cp) && decide (m ≤ 1000)))
      (K (.tup [rqV sp fi (mx pr e) 0 (kR M e m) (kR M e m), .v (.int .i64 (IntKind.i64.wrap ((m : Int) - (kR M e m : Int))))]) [.ints false .i64 (pR M e m)] [0])
  | _, _ => False
set_option maxHeartbeats 2000000 in
theorem prR_ok : SpecOK Try.prog 23 prRS := by
  refine ⟨enters_of Try.func23 rfl rfl, fun args blks K h => ?_⟩
  simp only at h
  split at h
  · rename_i sp fi pr m cp e M
    rw [ob_iff, Bool.and_eq_true, Bool.and_eq_true, decide_eq_true_eq, decide_eq_true_eq, decide_eq_true_eq] at h
    obtain ⟨⟨hl, hcp, hm⟩, hK⟩ := h
    refine FnOK.le (FnOK.keepM (FnOK.of_vf (I := prurI m M e) mixed SpecsOK.nil Try.func23 ?_))
    rw [prur_vf]
    have e0 : kR M e 0 = 0 := by rw [kR]
    have e1 : pR M e 0 = [] := by rw [pR]
    have e2 : m.ble cp = true := Nat.ble_eq.mpr hcp
    rw [e0, e1]
    simp only [ob_t, beq_self_eq_true, nbeq, nble, e2]
    refine ⟨ob_mk rfl trivial, fun k hk => ?_⟩
    have hkl := kR_le M e k
    have hpl := pR_len M e k
    have hw : ((IntKind.i64.wrap ((k : Int) + 1)) == ((k + 1 : Nat) : Int)) = true := by rw [wrap_i64 _ (by omega) (by omega), beq_iff_eq]; omega
    have hn : (0 : Nat) + (k : Int).toNat * 3 = k * 3 := by rw [Int.toNat_natCast, Nat.zero_add]
    rw [hw, hn]
    refine bc_mk (fun h1 => ?_) fun h1 => ?_
    · have h1 := of_decide_eq_true h1
      have hd : (true && decide ((k : Int) < (m : Int))) = true := by rw [Bool.true_and]; exact decide_eq_true h1
      rw [hd]
      refine ob_mk rfl (ob_mk (decide_eq_true (by omega)) (bc_mk (fun h2 => ?_) fun h2 => ?_))
      · have h2 := of_decide_eq_true h2
        have f1 : kR M e (k + 1) = kR M e k + 1 := by rw [kR, if_pos h2]
        have f2 : pR M e (k + 1) = pR M e k ++ [M.getD (k * 3) 0, M.getD (k * 3 + 1) 0, M.getD (k * 3 + 2) 0] := by rw [pR, if_pos h2]
        rw [f1, f2]
        refine ob_mk rfl (ob_mk (decide_eq_true (by omega)) (ob_mk (by rw [hpl]; exact nbeq _) (ob_mk (decide_eq_true (by omega)) ⟨by omega, ?_⟩)))
        simp only [nbeq, nble, ob_t, Nat.add_zero, beq_self_eq_true]
      · have h2 := of_decide_eq_false h2
        have f1 : kR M e (k + 1) = kR M e k := by rw [kR, if_neg h2]
        have f2 : pR M e (k + 1) = pR M e k := by rw [pR, if_neg h2]
        rw [f1, f2]
        refine ⟨by omega, ?_⟩
        simp only [nbeq, nble, ob_t, Nat.add_zero, beq_self_eq_true]
    · have h1 := of_decide_eq_false h1
      have hkm : k = m := by omega
      subst hkm
      exact rLeaf 3 rfl rfl (List.prefix_refl _) rfl (Nat.le_refl _) hK
  · exact h.elim
theorem nF_le (M : List Int) (c e b : Int) : ∀ n, nF M c e b n ≤ n
  | 0 => by rw [nF]; exact Nat.le_refl _
  | n + 1 => by
    have := nF_le M c e b n
    rw [nF]; split <;> omega
theorem nF_no (M : List Int) (c e b : Int) : ∀ n k, k < nF M c e b n → isF M c e b k = false
  | 0, k, h => by rw [nF] at h; omega
  | n + 1, k, h => by
    rw [nF] at h
    split at h
    · rename_i hc
      by_cases hk : k = n
      · rw [hk]; exact hc.2
      · exact nF_no M c e b n k (by omega)
    · exact nF_no M c e b n k h
theorem nF_yes (M : List Int) (c e b : Int) : ∀ n, nF M c e b n < n → isF M c e b (nF M c e b n) = true
  | 0, h => by omega
  | n + 1, h => by
    rw [nF] at h ⊢
    split at h
    · omega
    · rename_i hc
      rw [if_neg hc]
      by_cases hk : nF M c e b n < n
      · exact nF_yes M c e b n hk
      · have : nF M c e b n = n := by have := nF_le M c e b n; omega
        rw [this]
        cases hm : isF M c e b n
        · exact absurd ⟨this, hm⟩ hc
        · rfl
def rfE2 (M : List Int) (m : Nat) (c e b : Int) : Int := if mayR c e b = false then 1 else if nF M c e b m < m then 0 else 9
def rfN2 (M : List Int) (m : Nat) (c e b : Int) : Nat := if rfE2 M m c e b = 0 then m - 1 else m
def rfM2 (M : List Int) (m : Nat) (c e b : Int) : List Int := if rfE2 M m c e b = 0 then M.take (nF M c e b m * 3) ++ M.drop (nF M c e b m * 3 + 3) else M
def rfRS : Spec := .m fun args blks K => match args, blks with
  | [.agg [.v (.int .i64 sp), .v (.int .i64 fi), .v (.int .i64 pr), .slc 0 0 m cp 3], .v (.int .i64 c), .v (.int .i64 e), .v (.int .i64 b)], [.ints false .i64 M] => ob (decide (M.length = m * 3) && (decide (m ≤ cp) && decide (m ≤ 1000)))
      (K (.tup [rqV sp fi pr 0 (rfN2 M m c e b) (rfN2 M m c e b), .v (.int .i64 (rfE2 M m c e b))]) [.ints false .i64 (rfM2 M m c e b)] [0])
  | _, _ => False
set_option maxHeartbeats 4000000 in
theorem rfR_ok : SpecOK Try.prog 22 rfRS := by
  refine ⟨enters_of Try.func22 rfl rfl, fun args blks K h => ?_⟩
  simp only at h
  split at h
  · rename_i sp fi pr m cp c e b M
    rw [ob_iff, Bool.and_eq_true, Bool.and_eq_true, decide_eq_true_eq, decide_eq_true_eq, decide_eq_true_eq] at h
    obtain ⟨⟨hl, hcp, hm⟩, hK⟩ := h
    refine FnOK.le (FnOK.keepM (FnOK.of_vf (I := refrI m M c e b) mixed (.cons mayR_ok .nil) Try.func22 ?_))
    rw [refr_vf]
    have other : ∀ x : Int, x ≠ 0 → rfE2 M m c e b = x → K (.tup [rqV sp fi pr 0 m m, .v (.int .i64 x)]) [.ints false .i64 M] [0] := fun x hx he => by
      rw [rfN2, rfM2, he, if_neg hx, if_neg hx] at hK; exact hK
    refine bc_mk (fun h1 => rLeaf 0 rfl rfl (List.prefix_refl _) rfl hcp (other 1 (by decide) ?_)) fun h1 => ?_
    · rw [Bool.not_eq_true'] at h1; rw [rfE2, if_pos h1]
    rw [Bool.not_eq_false'] at h1
    have hE : rfE2 M m c e b = if nF M c e b m < m then 0 else 9 := by rw [rfE2, if_neg (by rw [h1]; decide)]
    clear h1
    have e2 : m.ble cp = true := Nat.ble_eq.mpr hcp
    simp only [ob_t, beq_self_eq_true, nbeq, nble, e2]
    have hnl := nF_le M c e b m
    intro k hk
    have hw : IntKind.i64.wrap ((k : Int) + 1) = ((k + 1 : Nat) : Int) := by rw [wrap_i64 _ (by omega) (by omega)]; omega
    have hM : (M.getD (0 + (k : Int).toNat * 3 + 0) 0 == c && (M.getD (0 + (k : Int).toNat * 3 + 1) 0 == e && (M.getD (0 + (k : Int).toNat * 3 + 2) 0 == b && true))) = isF M c e b k := by rw [isF, Int.toNat_natCast, Nat.zero_add, Bool.and_true]; rfl
    rw [hM, hw]
    refine bc_mk (fun h1 => ?_) fun h1 => ?_
    · have h1 := of_decide_eq_true h1
      refine ob_mk (by rw [Bool.true_and]; exact decide_eq_true h1) (ob_mk (decide_eq_true (by rw [Int.toNat_natCast]; omega)) (bc_mk (fun h2 => ?_) fun h2 => ?_))
      · have e1 : k = nF M c e b m := by
          rcases Nat.lt_or_ge k (nF M c e b m) with h3 | h3
          · rw [nF_no M c e b m k h3] at h2; cases h2
          · omega
        have h0 : rfE2 M m c e b = 0 := by rw [hE, if_pos (by omega)]
        rw [rfN2, rfM2, h0, if_pos rfl, if_pos rfl, ← e1] at hK
        clear hE other h0 h2 hM hw
        clear e1 hnl hk
        have g1 : (true && decide ((k : Int) ≤ (cp : Int))) = true := by rw [Bool.true_and]; exact decide_eq_true (by omega)
        have g2 : (0 + (k : Int).toNat * 3).ble M.length = true := Nat.ble_eq.mpr (by rw [Int.toNat_natCast]; omega)
        have g3 : decide ((k : Int).toNat * 24 ≤ 140737488355328) = true := decide_eq_true (by rw [Int.toNat_natCast]; omega)
        have g4 : (decide (0 ≤ ((k + 1 : Nat) : Int)) && decide (((k + 1 : Nat) : Int) ≤ (m : Int))) = true := by rw [Bool.and_eq_true, decide_eq_true_eq, decide_eq_true_eq]; omega
        have g5 : (0 + ((k + 1 : Nat) : Int).toNat * 3 + (m - ((k + 1 : Nat) : Int).toNat) * 3).ble M.length = true := Nat.ble_eq.mpr (by rw [Int.toNat_natCast]; omega)
        have g6 : ([] ++ cutL 0 ((k : Int).toNat * 3) M).length.beq ((k : Int).toNat * 3) = true := by
          have : ([] ++ cutL 0 ((k : Int).toNat * 3) M).length = (k : Int).toNat * 3 := by rw [Int.toNat_natCast, cutL]; simp; omega
          rw [this]; exact nbeq _
        have g7 : decide (((k : Int).toNat + (m - ((k + 1 : Nat) : Int).toNat)) * 24 ≤ 140737488355328) = true := decide_eq_true (by rw [Int.toNat_natCast, Int.toNat_natCast]; omega)
        simp only [g1, g2, g3, g4, g5, g6, g7, ob_t]
        have r1 : (k : Int).toNat + (m - ((k + 1 : Nat) : Int).toNat) = m - 1 := by rw [Int.toNat_natCast, Int.toNat_natCast]; omega
        have r2 : M.take (k * 3) ++ M.drop (k * 3 + 3) <+: ([] ++ cutL 0 ((k : Int).toNat * 3) M) ++ cutL (0 + ((k + 1 : Nat) : Int).toNat * 3) ((m - ((k + 1 : Nat) : Int).toNat) * 3) M := by
          rw [Int.toNat_natCast, Int.toNat_natCast, cutL, cutL, List.nil_append, List.drop_zero, List.take_of_length_le (l := M.drop _) (by simp; omega), show 0 + (k + 1) * 3 = k * 3 + 3 by omega]
          exact List.prefix_refl _
        repeat' apply And.intro
        all_goals first | exact rLeaf 4 rfl rfl r2 r1 (Nat.le_refl _) hK | exact rLeaf 5 rfl rfl r2 r1 (Nat.le_refl _) hK
      · have e1 : k < nF M c e b m := by
          rcases Nat.lt_or_ge k (nF M c e b m) with h3 | h3
          · exact h3
          · have e2 : k = nF M c e b m := by omega
            rw [e2, nF_yes M c e b m (by omega)] at h2; cases h2
        refine ⟨e1, ob_mk (by rw [beq_iff_eq]) trivial⟩
    · have h1 := of_decide_eq_false h1
      refine rLeaf 0 rfl rfl (List.prefix_refl _) rfl hcp (other 9 (by decide) ?_)
      rw [hE, if_neg (by omega)]
  · exact h.elim

end Go.Proofs.Ytahkneobmekokaa.Sx
