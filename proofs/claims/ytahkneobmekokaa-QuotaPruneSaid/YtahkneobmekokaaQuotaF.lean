/- The quota: what is pruned of all accounts. No condition. -/
import Derived.Test.YtahkneobmekokaaSx12
import Derived.Test.YtahkneobmekokaaProg
import Derived.Test.YtahkneobmekokaaBase
import Derived.Test.YtahkneobmekokaaQuota0
import Derived.Test.YtahkneobmekokaaQuotaA
import Derived.Test.YtahkneobmekokaaQuotaB
import Derived.Test.YtahkneobmekokaaQuotaC
import Derived.Test.YtahkneobmekokaaQuotaD
import Derived.Test.YtahkneobmekokaaQuotaE
namespace Go.Proofs.Ytahkneobmekokaa.Sx
open Go Go.Proofs
set_option maxRecDepth 100000
set_option linter.unusedSimpArgs false
set_option linter.unusedVariables false

/-- The accounts, those below c pruned. -/
def prU (q : QS) (e : Int) (c : Nat) : QS := { q with L := fun i => match Nat.ble c i with | true => q.L i | false => kp (q.L i) e (q.n i), n := fun i => match Nat.ble c i with | true => q.n i | false => kc (q.L i) e (q.n i), B := fun i => match Nat.ble c i with | true => q.B i | false => bW (q.L i) e (q.B i) (q.n i) }
def prK (q : QS) (e : Int) : Nat → Int
  | 0 => 0
  | c + 1 => cW (q.L c) e (prK q e c) (q.n c)
def dlA (q : QS) (e : Int) (c : Nat) (n m : Nat) (f : Nat) (blks : List Blk) (K : SV → List Blk → List Nat → Prop) : Prop :=
  (c < 16 ∧ (blks = tblD c (prU q e c) e (prK q e c) ∧ f = 30) ∧ n = (prU q e c).n c ∧ m = (prU q e c).n c) ∧ K (.slc 0 0 (kc (q.L c) e (q.n c)) (kc (q.L c) e (q.n c)) 2) (tblD c (setQ (prU q e c) c (kp (q.L c) e (q.n c)) (q.n c) (bW (q.L c) e (q.B c) (q.n c))) e (prK q e (c + 1))) []
def dlS (q : QS) (e : Int) : Spec := .m fun args blks K => match args, blks with
  | [.slc 0 0 n m 2, .fn f [] [.ptr 1 0, .ptr 2 0, .ptr 3 0]], b0 :: b1 :: b2 :: .cells true [.ptr 4 off] :: r => dlA q e ((off - 3) / 2) n m f (b0 :: b1 :: b2 :: .cells true [.ptr 4 off] :: r) K
  | _, _ => False
def prA (q : QS) (e : Int) (c : Nat) (X : Prop) : Prop := (c < 16 ∧ (tblD c (prU q e c) e (prK q e c) = tblD c (prU q e c) e (prK q e c) ∧ 30 = 30) ∧ (prU q e c).n c = (prU q e c).n c ∧ (prU q e c).n c = (prU q e c).n c) ∧ X
def prR (q : QS) (e : Int) : QS := { prU q e 16 with pr := mx q.pr e }
def prF (q : QS) (e : Int) (K : SV → List Blk → List Nat → Prop) : Prop := r16.foldr (fun c X => prA q e c X) (K (.v (.int .i64 (prK q e 16))) (tblQ true (prR q e)) [])
theorem pr_vf (q : QS) (e : Int) (K : SV → List Blk → List Nat → Prop) : (vf Try.prog [(29, dlS q e)] noI Try.f20 [.ptr 0 0, .v (.int .i64 e)] (tblQ true q) fun s t m => K s (t.take 17) m) = prF q e K := by kernel_rfl
theorem prU_L (q : QS) (e : Int) (c : Nat) : (prU q e c).L c = q.L c := by simp [prU, nble]
theorem prU_n (q : QS) (e : Int) (c : Nat) : (prU q e c).n c = q.n c := by simp [prU, nble]
theorem prU_B (q : QS) (e : Int) (c : Nat) : (prU q e c).B c = q.B c := by simp [prU, nble]
theorem prU_ok (q : QS) (e : Int) (c : Nat) (h : okQ q) : okQ (prU q e c) := by
  rw [okQ] at h ⊢
  refine ⟨h.1, fun i => ?_⟩
  have h1 := h.2 i
  have h2 := kc_le (q.L i) e (q.n i)
  simp only [prU]
  split
  · exact h1
  · exact ⟨kp_len _ _ _, by omega⟩
theorem dlS_ok (q : QS) (e : Int) (hq : okQ q) : SpecOK Try.prog 29 (dlS q e) := by
  refine ⟨enters_of Try.func29 rfl rfl, fun args blks K h => ?_⟩
  simp only at h
  split at h
  · rename_i n m f b0 b1 b2 off r
    obtain ⟨⟨hc, ⟨hb, hf⟩, hn, hm⟩, hK⟩ := h
    generalize (off - 3) / 2 = c at *
    have := (dlP_ok c (prU q e c) e (prK q e c) hc (prU_ok q e c hq)).2 [.slc 0 0 n m 2, .fn f [] [.ptr 1 0, .ptr 2 0, .ptr 3 0]] (b0 :: b1 :: b2 :: .cells true [.ptr 4 off] :: r) K
    refine this ⟨⟨⟨hb, hf⟩, hn, hm⟩, ?_⟩
    rw [prU_L, prU_n, prU_B]
    have e1 : prK q e (c + 1) = cW (q.L c) e (prK q e c) (q.n c) := by rw [prK]
    rw [e1] at hK
    exact hK
  · exact h.elim
def prS : Spec := .m fun args blks K => match args with
  | [.ptr 0 0, .v (.int .i64 e)] => ∃ q, blks = tblQ true q ∧ okQ q ∧ K (.v (.int .i64 (prK q e 16))) (tblQ true (prR q e)) mvQ
  | _ => False
theorem prS_ok : SpecOK Try.prog 20 prS := by
  refine ⟨enters_of Try.func20 rfl rfl, fun args blks K h => ?_⟩
  simp only at h
  split at h
  · rename_i e
    obtain ⟨q, rfl, hq, hK⟩ := h
    refine FnOK.trimQ 17 (by rw [lenQ]; exact Nat.le_refl _) (FnOK.of_vf (I := noI) mixed (.cons (dlS_ok q e hq) .nil) Try.func20 ?_)
    rw [pr_vf q e (fun s t m => ∃ m', ((s.lt 17 && tblLt 17 t) && (Nat.beq t.length 17 && subB m m')) = true ∧ K s t m')]
    have key : ∀ (c : Nat) (X : Prop), c < 16 → X → prA q e c X := fun c X hc hX => ⟨⟨hc, ⟨rfl, rfl⟩, rfl, rfl⟩, hX⟩
    have all : ∀ (l : List Nat) (X : Prop), (∀ c ∈ l, c < 16) → X → l.foldr (fun c X => prA q e c X) X := by
      intro l
      induction l with
      | nil => intro X _ h; exact h
      | cons c l ih => intro X h hX; exact key c _ (h c (by simp)) (ih X (fun d hd => h d (by simp [hd])) hX)
    exact all r16 _ (by decide) (qEnd rfl hK)
  · exact h.elim

end Go.Proofs.Ytahkneobmekokaa.Sx
