/- The quota: its accounts, one file of an account. No condition. -/
import Derived.Test.YtahkneobmekokaaSx12
import Derived.Test.YtahkneobmekokaaProg
import Derived.Test.YtahkneobmekokaaBase
import Derived.Test.YtahkneobmekokaaQuota0
namespace Go.Proofs.Ytahkneobmekokaa.Sx
open Go Go.Proofs
set_option maxRecDepth 100000
set_option linter.unusedSimpArgs false
set_option linter.unusedVariables false

structure QS where
  sp : Int
  fi : Int
  pr : Int
  L : Nat → List Int
  n : Nat → Nat
  B : Nat → Int
def r16 : List Nat := [0, 1, 2, 3, 4, 5, 6, 7, 8, 9, 10, 11, 12, 13, 14, 15]
def accC (q : QS) : List Nat → List SV
  | [] => []
  | i :: r => .slc (i + 1) 0 (q.n i) (q.n i) 2 :: .v (.int .i64 (q.B i)) :: accC q r
def accB (w : Bool) (q : QS) : List Nat → List Blk
  | [] => []
  | i :: r => .ints w .i64 (q.L i) :: accB w q r
def tblQ (w : Bool) (q : QS) : List Blk := .cells w (.v (.int .i64 q.sp) :: .v (.int .i64 q.fi) :: .v (.int .i64 q.pr) :: accC q r16) :: accB w q r16
def mayF (e b : Int) : Bool := decide (e ≥ 0) && (decide (e ≤ 63) && decide (b ≥ 0))
def mayS : Spec := .q fun args blks K => match args, blks with
  | [.v (.int .i64 e), .v (.int .i64 b)], [] => K (.v (.bool (mayF e b)))
  | _, _ => False
theorem may_vf (e b : Int) (K : SV → List Blk → List Nat → Prop) : vf Try.prog [] (noI) Try.f26 [.v (.int .i64 e), .v (.int .i64 b)] [] K =
  (bc (decide (e ≥ (0 : Int))) (bc (bif true then decide (e ≤ (63 : Int)) else false) (K (SV.v (Value.bool (bif true then decide (b ≥ (0 : Int)) else false))) [] []) (K (SV.v (Value.bool false)) [] [])) (K (SV.v (Value.bool false)) [] [])) := by kernel_rfl
def outC (c : Int) : Bool := decide (c < 0) || decide (c > 15)
def ofOut : Spec := .m fun args blks K => match args with
  | [.ptr 0 0, .v (.int .i64 c)] => (normB blks = blks ∧ tblLt blks.length blks = true) ∧ ob (outC c) (K (.v (.pointer none)) blks [])
  | _ => False
theorem ofv_vf (c : Int) (blks : List Blk) (K : SV → List Blk → List Nat → Prop) : vf Try.prog [] noI Try.f24 [.ptr 0 0, .v (.int .i64 c)] blks K =
    bc (bif false then true else decide (c < 0)) (K (.v (.pointer none)) (normB blks) []) (bc (bif false then true else decide (c > 15)) (K (.v (.pointer none)) (normB blks) []) (ob (decide (0 ≤ c) && decide (c < 16)) (K (.ptr 0 (3 + c.toNat * 2)) (normB blks) []))) := by kernel_rfl
def matF (l : List Int) (e b : Int) (k : Nat) : Bool := (e == l.getD (k * 2) 0) && (b == l.getD (k * 2 + 1) 0)
def noM (l : List Int) (e b : Int) : Nat → Nat
  | 0 => 0
  | k + 1 => if noM l e b k = k ∧ matF l e b k = false then k + 1 else noM l e b k
def idxZ (l : List Int) (e b : Int) (n : Nat) : Int := if noM l e b n < n then (noM l e b n : Int) else -1
def idxS : Spec := .q fun args blks K => match args, blks with
  | [.slc 0 0 n cp 2, .ia .i64 [e, b]], [.ints false .i64 l] => ob (decide (l.length = n * 2) && (decide (n ≤ cp) && decide (n ≤ 100000))) (K (.v (.int .i64 (idxZ l e b n))))
  | _, _ => False
theorem idx_vf (l : List Int) (e b : Int) (n cp : Nat) (w : Bool) (K : SV → List Blk → List Nat → Prop) : vf Try.prog [] (fun id st => match id with
  | 0 => .inv (noM l e b n) fun k => { st with env := (8, .v (.int .i64 (k : Int))) :: keep st.env [0, 3, 7] }
  | _ => .unroll 20) Try.f27 [.slc 0 0 n cp 2, .ia .i64 [e, b]] [.ints w .i64 l] K =
  (ob true (ob true (ob true (ob (n.beq n) (ob (cp.ble cp) (ob (n.ble cp) (ob true (ob true (ob true (ob ((↑n : Int) == (↑n : Int)) (ob (!w || w) (ob (l == l) (ob true (ob ([e, b] == [e, b]) (∀ (k : Nat), k ≤ noM l e b n → bc (decide ((↑k : Int) < (↑n : Int))) (ob true (ob (true && decide ((↑k : Int) < (↑n : Int))) (ob (decide ((0 : Nat) + (↑k : Int).toNat * (2 : Nat) + (2 : Nat) ≤ l.length)) (bc (e == l.getD ((0 : Nat) + (↑k : Int).toNat * (2 : Nat) + (0 : Nat)) (0 : Int) && (b == l.getD ((0 : Nat) + (↑k : Int).toNat * (2 : Nat) + (1 : Nat)) (0 : Int) && true)) (K (SV.v (Value.int IntKind.i64 (↑k : Int))) [Blk.ints w IntKind.i64 l, Blk.ints true IntKind.i64 [e, b]] []) (k < noM l e b n ∧ ob (IntKind.i64.wrap ((↑k : Int) + (1 : Int)) == (↑(k + (1 : Nat)) : Int)) (ob true (ob true (ob (n.beq n) (ob (cp.ble cp) (ob (n.ble cp) (ob true (ob true (ob true (ob ((↑n : Int) == (↑n : Int)) (ob (!w || w) (ob (l == l) (ob true (ob ([e, b] == [e, b]) True)))))))))))))))))) (K (SV.v (Value.int IntKind.i64 (-1 : Int))) [Blk.ints w IntKind.i64 l, Blk.ints true IntKind.i64 [e, b]] [])))))))))))))))) := by kernel_rfl
def delL (l : List Int) (i : Nat) : List Int := l.take (i * 2) ++ l.drop (i * 2 + 2)
def delS : Spec := .m fun args blks K => match args, blks with
  | [.slc 0 0 n cp 2, .v (.int .i64 i), .v (.int .i64 j)], [.ints true .i64 l] => ob (decide (l.length = n * 2) && (decide (0 ≤ i) && (decide (i < n) && (decide (j = i + 1) && decide (n ≤ cp)))))
      (K (.slc 0 0 (n - 1) (n - 1) 2) [.ints true .i64 (delL l i.toNat)] [])
  | _, _ => False
theorem del_vf (l : List Int) (i j : Int) (n cp : Nat) (K : SV → List Blk → List Nat → Prop) : vf Try.prog [] (noI) Try.f28 [.slc 0 0 n cp 2, .v (.int .i64 i), .v (.int .i64 j)] [.ints true .i64 l] K =
  (ob (decide ((0 : Int) ≤ i) && decide (i ≤ j) && decide (j ≤ (↑n : Int)) && decide ((↑n : Int) ≤ (↑cp : Int))) (bc (i == j) (K (SV.slc (0 : Nat) (0 : Nat) n cp (2 : Nat)) [Blk.ints true IntKind.i64 l] []) (ob (decide ((0 : Int) ≤ i) && decide (i ≤ (↑cp : Int))) (ob (decide ((0 : Int) ≤ j) && decide (j ≤ (↑n : Int))) (ob (((0 : Nat) + j.toNat * (2 : Nat) + (n - j.toNat) * (2 : Nat)).ble l.length) (ob (decide (i.toNat + (n - j.toNat) ≤ cp)) (ob (((n - j.toNat) * (2 : Nat)).ble (cutL ((0 : Nat) + j.toNat * (2 : Nat)) ((n - j.toNat) * (2 : Nat)) l).length && ((0 : Nat) + i.toNat * (2 : Nat) + (n - j.toNat) * (2 : Nat)).ble l.length) (ob (true && decide ((↑(i.toNat + (n - j.toNat)) : Int) ≤ (↑n : Int)) && decide ((↑n : Int) ≤ (↑cp : Int))) (ob ((((↑n : Int).toNat - (↑(i.toNat + (n - j.toNat)) : Int).toNat) * (2 : Nat)).ble (List.replicate (((↑n : Int).toNat - (↑(i.toNat + (n - j.toNat)) : Int).toNat) * (2 : Nat)) (0 : Int)).length && ((0 : Nat) + (↑(i.toNat + (n - j.toNat)) : Int).toNat * (2 : Nat) + ((↑n : Int).toNat - (↑(i.toNat + (n - j.toNat)) : Int).toNat) * (2 : Nat)).ble (putAt l ((0 : Nat) + i.toNat * (2 : Nat)) (List.take ((n - j.toNat) * (2 : Nat)) (cutL ((0 : Nat) + j.toNat * (2 : Nat)) ((n - j.toNat) * (2 : Nat)) l))).length) (K (SV.slc (0 : Nat) (0 : Nat) (i.toNat + (n - j.toNat)) cp (2 : Nat)) [Blk.ints true IntKind.i64 (putAt (putAt l ((0 : Nat) + i.toNat * (2 : Nat)) (List.take ((n - j.toNat) * (2 : Nat)) (cutL ((0 : Nat) + j.toNat * (2 : Nat)) ((n - j.toNat) * (2 : Nat)) l))) ((0 : Nat) + (↑(i.toNat + (n - j.toNat)) : Int).toNat * (2 : Nat)) (List.take (((↑n : Int).toNat - (↑(i.toNat + (n - j.toNat)) : Int).toNat) * (2 : Nat)) (List.replicate (((↑n : Int).toNat - (↑(i.toNat + (n - j.toNat)) : Int).toNat) * (2 : Nat)) (0 : Int))))] [])))))))))) := by kernel_rfl
theorem may_ok : SpecOK Try.prog 26 mayS := by
  refine q_of mixed SpecsOK.nil Try.func26 rfl rfl fun args blks K h => ?_
  split at h
  · rename_i e b
    refine ⟨_, rfl, h, rfl, noI, ?_⟩
    rw [may_vf, mayF]
    refine bc_mk (fun h1 => bc_mk (fun h2 => ?_) fun h2 => ?_) fun h1 => ?_
    · have h2 : decide (e ≤ 63) = _ := h2
      rw [h1, h2]; exact ⟨rfl, ⟨rfl, rfl⟩, rfl⟩
    · have h2 : decide (e ≤ 63) = _ := h2
      rw [h1, h2]; exact ⟨rfl, ⟨rfl, rfl⟩, rfl⟩
    · rw [h1]; exact ⟨rfl, ⟨rfl, rfl⟩, rfl⟩
  · exact h.elim
theorem noM_le (l : List Int) (e b : Int) : ∀ n, noM l e b n ≤ n
  | 0 => by rw [noM]; exact Nat.le_refl _
  | n + 1 => by
    have := noM_le l e b n
    rw [noM]; split <;> omega
theorem noM_no (l : List Int) (e b : Int) : ∀ n k, k < noM l e b n → matF l e b k = false
  | 0, k, h => by rw [noM] at h; omega
  | n + 1, k, h => by
    rw [noM] at h
    split at h
    · rename_i hc
      by_cases hk : k = n
      · rw [hk]; exact hc.2
      · exact noM_no l e b n k (by omega)
    · exact noM_no l e b n k h
theorem noM_yes (l : List Int) (e b : Int) : ∀ n, noM l e b n < n → matF l e b (noM l e b n) = true
  | 0, h => by omega
  | n + 1, h => by
    rw [noM] at h ⊢
    split at h
    · omega
    · rename_i hc
      rw [if_neg hc]
      by_cases hk : noM l e b n < n
      · exact noM_yes l e b n hk
      · have : noM l e b n = n := by have := noM_le l e b n; omega
        rw [this]
        cases hm : matF l e b n
        · exact absurd ⟨this, hm⟩ hc
        · rfl
theorem matF_pos (l : List Int) (e b : Int) (k : Nat) : (e == l.getD (0 + (k : Int).toNat * 2 + 0) 0 && (b == l.getD (0 + (k : Int).toNat * 2 + 1) 0 && true)) = matF l e b k := by
  rw [matF, Int.toNat_natCast, Nat.zero_add, Nat.add_zero, Bool.and_true]
theorem bif_ft (b : Bool) : (bif false then true else b) = b := rfl
theorem idx_ok : SpecOK Try.prog 27 idxS := by
  refine q_ro mixed SpecsOK.nil Try.func27 rfl rfl fun args blks K h => ?_
  split at h
  · rename_i n cp e b l
    rw [ob_iff, Bool.and_eq_true, Bool.and_eq_true, decide_eq_true_eq, decide_eq_true_eq, decide_eq_true_eq] at h
    obtain ⟨⟨hl, hcp, hn⟩, hK⟩ := h
    have hle := noM_le l e b n
    refine ⟨_, rfl, hK, rfl, (fun id st => match id with
  | 0 => .inv (noM l e b n) fun k => { st with env := (8, .v (.int .i64 (k : Int))) :: keep st.env [0, 3, 7] }
  | _ => .unroll 20), ?_⟩
    rw [idx_vf]
    (repeat (first | (with_reducible refine ob_true ?_) | refine ob_mk (by first | (with_reducible exact beq_self_eq_true _) | (with_reducible exact nbeq _) | (with_reducible exact nble _) | (with_reducible exact seq_rfl _) | (with_reducible assumption) | (simp only [decide_eq_true_eq, Bool.and_eq_true, beq_iff_eq, Bool.true_and, Bool.and_true, Nat.beq_eq, Nat.ble_eq, true_and, and_true, ge_iff_le, gt_iff_lt, Bool.not_false, Bool.true_or]; first | done | omega)) ?_))
    intro k hk
    refine bc_mk (fun h1 => ?_) fun h1 => ?_
    · have h1 := of_decide_eq_true h1
      rw [matF_pos]
      (repeat (first | (with_reducible refine ob_true ?_) | refine ob_mk (by first | (with_reducible exact beq_self_eq_true _) | (with_reducible exact nbeq _) | (with_reducible exact nble _) | (with_reducible exact seq_rfl _) | (with_reducible assumption) | (simp only [decide_eq_true_eq, Bool.and_eq_true, beq_iff_eq, Bool.true_and, Bool.and_true, Nat.beq_eq, Nat.ble_eq, true_and, and_true, ge_iff_le, gt_iff_lt, Int.toNat_natCast]; first | done | omega)) ?_))
      refine bc_mk (fun h2 => ?_) fun h2 => ?_
      · have e1 : k = noM l e b n := by
          rcases Nat.lt_or_ge k (noM l e b n) with h3 | h3
          · rw [noM_no l e b n k h3] at h2; cases h2
          · omega
        rw [idxZ, if_pos (by omega), ← e1]
      · have e1 : k < noM l e b n := by
          rcases Nat.lt_or_ge k (noM l e b n) with h3 | h3
          · exact h3
          · have e2 : k = noM l e b n := by omega
            rw [e2, noM_yes l e b n (by omega)] at h2; cases h2
        refine ⟨e1, ?_⟩
        have e2 : (IntKind.i64.wrap ((k : Int) + 1) == ((k + 1 : Nat) : Int)) = true := by
          rw [wrap_i64 _ (by omega) (by omega), beq_iff_eq]; omega
        refine ob_mk e2 ?_
        (repeat (first | (with_reducible refine ob_true ?_) | refine ob_mk (by first | (with_reducible exact beq_self_eq_true _) | (with_reducible exact nbeq _) | (with_reducible exact nble _) | (with_reducible exact seq_rfl _) | (with_reducible assumption) | (simp only [decide_eq_true_eq, Bool.and_eq_true, beq_iff_eq, Bool.true_and, Bool.and_true, Nat.beq_eq, Nat.ble_eq, true_and, and_true, ge_iff_le, gt_iff_lt, Bool.not_false, Bool.true_or]; first | done | omega)) ?_))
        exact trivial
    · have h1 := of_decide_eq_false h1
      rw [idxZ, if_neg (by omega)]
  · exact h.elim
theorem ofOut_ok : SpecOK Try.prog 24 ofOut := by
  refine ⟨enters_of Try.func24 rfl rfl, fun args blks K h => ?_⟩
  simp only at h
  split at h
  · rename_i c
    obtain ⟨⟨hb, hb2⟩, h⟩ := h
    rw [ob_iff] at h
    obtain ⟨hc, h⟩ := h
    refine FnOK.trim blks.length (FnOK.of_vf (I := noI) mixed SpecsOK.nil Try.func24 ?_)
    rw [ofv_vf, hb]
    rw [outC, Bool.or_eq_true, decide_eq_true_eq, decide_eq_true_eq] at hc
    have hfin : (SV.lt blks.length (.v (.pointer none)) && tblLt blks.length (blks.take blks.length) && Nat.ble blks.length blks.length && Nat.ble blks.length blks.length) = true := by
      rw [List.take_length, hb2, nble]; rfl
    refine bc_mk (fun _ => ⟨hfin, by rw [List.take_length]; exact h⟩) fun h1 => bc_mk (fun _ => ⟨hfin, by rw [List.take_length]; exact h⟩) fun h2 => ?_
    have h1 := of_decide_eq_false h1
    have h2 := of_decide_eq_false h2
    omega
  · exact h.elim
theorem putAt_del (l : List Int) (i n : Nat) (hl : l.length = n * 2) (hi : i < n) (z : List Int) : putAt (putAt l (0 + i * 2) (List.take ((n - (i + 1)) * 2) (cutL (0 + (i + 1) * 2) ((n - (i + 1)) * 2) l))) (0 + (i + (n - (i + 1))) * 2) z = delL l i ++ (z ++ l.drop (n * 2 - 2 + z.length)) := by
  have e0 : (cutL (0 + (i + 1) * 2) ((n - (i + 1)) * 2) l) = l.drop (i * 2 + 2) := by
    rw [cutL, List.take_of_length_le (by simp; omega)]; congr 1; omega
  rw [e0, List.take_of_length_le (by simp; omega)]
  have e1 : putAt l (0 + i * 2) (l.drop (i * 2 + 2)) = delL l i ++ l.drop (n * 2 - 2) := by
    unfold putAt
    rw [delL, Nat.zero_add, List.append_assoc, List.append_assoc]
    congr 3
    simp; omega
  have e2 : (delL l i).length = n * 2 - 2 := by rw [delL]; simp; omega
  rw [e1]
  unfold putAt
  rw [show 0 + (i + (n - (i + 1))) * 2 = n * 2 - 2 by omega, List.take_left' e2, List.append_assoc]
  congr 1
  rw [List.drop_append, e2, List.drop_of_length_le (by omega), List.nil_append, List.drop_drop]
  congr 2
  omega
theorem delL_len (l : List Int) (i n : Nat) (hl : l.length = n * 2) (hi : i < n) : (delL l i).length = (n - 1) * 2 := by rw [delL]; simp; omega
set_option maxHeartbeats 1000000 in
theorem del_ok : SpecOK Try.prog 28 delS := by
  refine m_le mixed SpecsOK.nil Try.func28 rfl rfl fun args blks K h => ?_
  split at h
  · rename_i n cp i j l
    simp only [ob_iff, Bool.and_eq_true, decide_eq_true_eq] at h
    obtain ⟨⟨hl, h0, hi, hj, hcp⟩, hK⟩ := h
    refine ⟨noI, ?_⟩
    rw [del_vf]
    obtain ⟨i, rfl⟩ : ∃ k : Nat, i = k := ⟨i.toNat, by omega⟩
    subst hj
    have ej : ((i : Int) + 1).toNat = i + 1 := by omega
    have hin : i < n := by omega
    have hlc : (cutL (0 + (i + 1) * 2) ((n - (i + 1)) * 2) l).length = (n - (i + 1)) * 2 := by rw [cutL]; simp; omega
    rw [ej]
    simp only [Int.toNat_natCast]
    refine ob_mk (by simp only [Bool.and_eq_true, decide_eq_true_eq]; omega) ?_
    refine bc_mk (fun h1 => ?_) fun _ => ?_
    · rw [beq_iff_eq] at h1; omega
    refine ob_mk (by simp only [Bool.and_eq_true, decide_eq_true_eq]; omega) ?_
    refine ob_mk (by simp only [Bool.and_eq_true, decide_eq_true_eq]; omega) ?_
    refine ob_mk (by rw [Nat.ble_eq]; omega) ?_
    refine ob_mk (decide_eq_true (by omega)) ?_
    refine ob_mk (by rw [Bool.and_eq_true, Nat.ble_eq, Nat.ble_eq, hlc]; omega) ?_
    refine ob_mk (by simp only [Bool.true_and, Bool.and_eq_true, decide_eq_true_eq]; omega) ?_
    rw [putAt_del l i n hl hin]
    have hz : (List.take ((n - (i + (n - (i + 1)))) * 2) (List.replicate ((n - (i + (n - (i + 1)))) * 2) (0 : Int))).length = 2 := by simp; omega
    have hpl : (putAt l (0 + i * 2) (List.take ((n - (i + 1)) * 2) (cutL (0 + (i + 1) * 2) ((n - (i + 1)) * 2) l))).length = n * 2 := by
      rw [putAt_length _ _ _ (by omega), List.length_take, hlc]; omega
    refine ob_mk (by rw [Bool.and_eq_true, Nat.ble_eq, Nat.ble_eq, hpl, List.length_replicate]; omega) ?_
    refine ⟨.slc 0 0 (n - 1) (n - 1) 2, [.ints true .i64 (delL l i)], [], ?_, ?_, rfl, hK⟩
    · simp only [SV.le]; refine ⟨trivial, trivial, ?_, ?_, ?_, trivial⟩ <;> omega
    · simp only [tblLe, blkLe]
      exact ⟨⟨fun h => h, trivial, List.prefix_append _ _⟩, trivial⟩
  · exact h.elim

end Go.Proofs.Ytahkneobmekokaa.Sx
