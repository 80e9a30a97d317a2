/- TopBlocks: put together. No condition. -/
import Derived.Test.YtmnenigmkfnciaaGreatDoorAl1
import Derived.Test.YtmnenigmkfnciaaGreatDoorSx13
import Derived.Test.YtmnenigmkfnciaaGreatDoorProg
import Derived.Test.YtmnenigmkfnciaaGreatDoorBase
import Derived.Test.YtmnenigmkfnciaaGreatDoorMA
import Derived.Test.YtmnenigmkfnciaaGreatDoorMB
import Derived.Test.YtmnenigmkfnciaaGreatDoorME
import Derived.Test.YtmnenigmkfnciaaGreatDoorMC
import Derived.Test.YtmnenigmkfnciaaGreatDoorMD
import Derived.Test.YtmnenigmkfnciaaGreatDoorMF
import Derived.Test.YtmnenigmkfnciaaGreatDoorMG
import Derived.Test.YtmnenigmkfnciaaGreatDoorMH
namespace Go.Proofs.YtmnenigmkfnciaaGreatDoor.Sx
open Go Go.Proofs
set_option maxRecDepth 100000
set_option linter.unusedSimpArgs false
set_option linter.unusedVariables false

theorem tbS_ok : SpecsOK Tryz.prog tbS := .cons alone_ok (.cons newPoolS_ok (.cons firstS_ok (.cons putL_ok (.cons pickL_ok (.cons encS_ok (.cons digS_ok (.cons doneL_ok (.cons chainG_ok .nil))))))))
/-- What holds between rounds. -/
def tI (i : Nat) (y : TY) : Prop := okP y.R y.X ∧ (-(8 * (i : Int)) ≤ y.N ∧ y.N ≤ (i : Int)) ∧ y.m ≤ 51 ∧ goodC y.f y.m ∧ (y.par = prtF y.f y.m ∧ y.par.size = 32) ∧ allI y.A y.X ∧ y.A.n ≤ 8 * i
theorem upF_prt (f : Nat → ByteArray) (m : Nat) (s : ByteArray) (i : Nat) (h : i ≤ m) : prtF (upF f m s) i = prtF f i := by
  cases i with
  | zero => rw [prtF_0, prtF_0]
  | succ i => rw [prtF_s, prtF_s, upF_lt _ _ _ (by omega)]
theorem good_up {f : Nat → ByteArray} {m : Nat} (h : goodC f m) (L : RT) (hB : blockOK (m : Int) (prtF f m) L) (hs : smallR L.n L.nm L.b) : goodC (upF f m (encB (m : Int) (prtF f m) L)) (m + 1) := by
  intro i hi
  rcases Nat.lt_or_ge i m with h1 | h1
  · obtain ⟨L', e1, e2, e3⟩ := h i h1
    refine ⟨L', ?_, ?_, e3⟩
    · rw [upF_lt _ _ _ h1, upF_prt _ _ _ _ (by omega)]; exact e1
    · rw [upF_prt _ _ _ _ (by omega)]; exact e2
  · have : i = m := by omega
    subst this
    refine ⟨L, ?_, ?_, hs⟩
    · rw [upF_at, upF_prt _ _ _ _ (Nat.le_refl _)]
    · rw [upF_prt _ _ _ _ (Nat.le_refl _)]; exact hB
section
variable {D : DT} {p most : Nat}
theorem tb_blk (hp : D.n ≤ p) (hm1 : 1 ≤ most) (hm8 : most ≤ 8) (i : Nat) (hi : i < D.n) (hi100 : i < 100) (y : TY) (hI : tI i y) :
    Tr Tryz.prog (tb1 (bodyOf Tryz.f3)) (tH D p (most : Int) (i : Int) y) (pr (fun st' => ∃ y' : TY, tI (i + 1) y' ∧ stL st' (tH D p (most : Int) (i : Int) y')) (fun st' => ∃ y' : TY, tI (i + 1) y' ∧ stL st' (tH D p (most : Int) (i : Int) y')) 1 rT) := by
  have hix : 0 + ((i : Nat) : Int).toNat = i := by omega
  have hb1 : (decide ((0 : Int) ≤ (i : Int)) && decide ((i : Int) < (D.n : Int))) = true := by simp only [Bool.and_eq_true, decide_eq_true_eq]; omega
  refine TrR.nx (by kernel_rfl) (TrR.leaf mixed tbS_ok (w10 D p most i y _ _) (ob_mk hb1 (ob_mk rfl (ob_mk (decide_eq_true (by omega)) (t10_self hp most i _ _ _ _ _ _ y))))) fun st' h => Tr.le h ?_
  rw [hix]
  generalize D.r.c i = c
  generalize D.r.s i = s
  generalize D.r.k i = k
  generalize D.r.e i = e
  generalize D.r.nm i = n
  generalize D.r.b i = b
  refine TrR.nx (by kernel_rfl) (TrR.leaf mixed tbS_ok (w11 D p most i c s k e n b y (n.size ≤ 100 ∧ b.size ≤ 400) _ _) (bc_mk (fun _ => rfl) fun h1 => bc_mk (fun _ => rfl) fun h2 => ⟨⟨by have := of_decide_eq_false h1; omega, by have := of_decide_eq_false (show decide ((b.size : Int) > 400) = false from h2); omega⟩, t10_self hp most i c s k e n b y⟩)) ?_
  rintro st' ⟨⟨hn, hb⟩, h⟩
  refine Tr.le h ?_
  have hI' := hI
  unfold tI at hI'
  obtain ⟨hok, ⟨hN0, hN1⟩, hm, hg, ⟨hpar, hps⟩, hall, hAn⟩ := hI'
  refine TrR.nx (by kernel_rfl) (TrR.leaf mixed tbS_ok (w13 D p most i c s k e n b y (fun y' => ∃ (R' : Nat → RT) (N' : Int), y' = yR y R' y.X N' ∧ okP R' y.X ∧ y.N ≤ N' ∧ N' ≤ y.N + 1) _ _) ⟨y.R, y.X, y.N, pV_in y.R y.X y.N, hok, ob_mk (by simp only [Bool.and_eq_true, decide_eq_true_eq]; omega)
    ⟨fun z _ => ⟨yR y y.R y.X y.N, ⟨y.R, y.N, rfl, hok, by omega, by omega⟩, t10_le hp most y.R y.X y.N i c s k e n b y⟩, fun _ => ⟨hb, fun R' hR' => ⟨yR y R' y.X (y.N + 1), ⟨R', y.N + 1, rfl, hR', by omega, by omega⟩, t10_le hp most R' y.X (y.N + 1) i c s k e n b y⟩⟩⟩⟩) ?_
  rintro st' ⟨y1, ⟨R1, N1, rfl, hok1, hN2, hN3⟩, h⟩
  refine Tr.le h ?_
  have hI1 : tI (i + 1) (yR y R1 y.X N1) := ⟨hok1, ⟨by show _ ≤ N1; omega, by show N1 ≤ _; omega⟩, hm, hg, ⟨hpar, hps⟩, hall, by show y.A.n ≤ _; omega⟩
  refine TrR.nx (N1 := fun st' => y.m ≤ 50 ∧ stL st' (t10 D p (most : Int) (i : Int) c s k e n b (yR y R1 y.X N1))) (by kernel_rfl) (TrR.both (TrR.leaf mixed tbS_ok (w14 D p most i c s k e n b (yR y R1 y.X N1) (y.m ≤ 50)) (ob_mk hb1 (ob_mk rfl (ob_mk (decide_eq_true (by omega)) (bc_mk (fun _ => ⟨rfl, tH_self hp most i _⟩) fun _ => bc_mk (fun _ => ⟨rfl, tH_self hp most i _⟩) fun h2 => ⟨by have := of_decide_eq_false (show decide ((y.m : Int) > 50) = false from h2); omega, t10_self hp most i c s k e n b _⟩))))) (fun st h => h) fun st h => ⟨_, hI1, h⟩) ?_
  rintro st' ⟨hm50, h⟩
  refine Tr.le h ?_
  have hy1 : yR (yR y R1 y.X N1) R1 y.X N1 = yR y R1 y.X N1 := rfl
  refine TrR.nx (by kernel_rfl) (TrR.leaf mixed tbS_ok (w15 D p most i c s k e n b (yR y R1 y.X N1) (fun L y' => y' = yR y R1 y.X N1 ∧ PickOK R1 L ∧ L.n ≤ 8) _ _) ⟨R1, y.X, N1, pV_in R1 y.X N1, hok1, ob_mk (by simp only [Bool.and_eq_true, decide_eq_true_eq]; omega) fun L h1 h2 => ⟨L, yR y R1 y.X N1, ⟨rfl, h1, Nat.le_trans h2 (by omega)⟩, t11_le hp most R1 y.X N1 i c s k e n b L y.m y.par (yR y R1 y.X N1)⟩⟩) ?_
  rintro st' ⟨L, y2, ⟨rfl, hpk, hL8⟩, h⟩
  refine Tr.le h ?_
  show Tr Tryz.prog _ (t11 D p (most : Int) (i : Int) L (y.m : Int) y.par (yR y R1 y.X N1)) _
  obtain ⟨hall1, hsm, hap⟩ := pick_all hok1 hpk
  have hB : blockOK (y.m : Int) y.par L := ⟨⟨hL8, by omega, hps⟩, hall1, hap⟩
  refine TrR.nx (by kernel_rfl) (TrR.leaf mixed tbS_ok (w16 D p most i L y.m y.par (yR y R1 y.X N1) _ _) ⟨hap, hall1, hsm, ob_mk (by simp only [Nat.beq_refl, nble, Bool.true_and, Bool.and_eq_true, decide_eq_true_eq, beq_iff_eq]; omega) (t13_self hp most i L y.m y.par _ 0 _)⟩) fun st' h => Tr.le h ?_
  have hsz : (encB (y.m : Int) y.par L).size ≤ 1000000 := by
    rw [encB_def, textsB_size]
    have h2 := encF_len (y.m : Int) y.par L hps L.n hsm
    omega
  have hgood : goodC (upF y.f y.m (encB (y.m : Int) y.par L)) (y.m + 1) := by
    rw [hpar]
    rw [hpar] at hB
    exact good_up hg L hB hsm
  generalize ht : encB (y.m : Int) y.par L = t
  rw [ht] at hsz hgood
  refine TrR.nx (by kernel_rfl) (TrR.leaf mixed tbS_ok (w17 D p most i L y.m y.par t 0 (yR y R1 y.X N1) _ _) (bc_mk (fun h => by simp at h) fun _ => t12_self hp most i L y.m y.par t _)) fun st' h => Tr.le h ?_
  refine TrR.nx (by kernel_rfl) (TrR.leaf mixed tbS_ok (w19 D p most i L y.m y.par t (yR y R1 y.X N1) _ _) (ob_mk rfl (ob_mk (Nat.beq_refl _) (ob_mk (decide_eq_true (by show (y.m + 1) * 16 ≤ _; omega)) (t12_le hp most i L y.m y.par t _))))) fun st' h => Tr.le h ?_
  refine TrR.nx (by kernel_rfl) (TrR.leaf mixed tbS_ok (w20 D p most i L y.m y.par t (yC (yR y R1 y.X N1) t) _ _) (ob_mk (decide_eq_true hsz) (t11_self hp most i L y.m y.par _))) fun st' h => Tr.le h ?_
  refine TrR.nx (by kernel_rfl) (TrR.leaf mixed tbS_ok (w21 D p most i L y.m y.par (yP (yC (yR y R1 y.X N1) t) (shaD t)) (fun y' => ∃ (R' : Nat → RT) (X' : Nat → Nat), y' = yR (yP (yC (yR y R1 y.X N1) t) (shaD t)) R' X' (N1 - (L.n : Nat)) ∧ dnI R1 y.X L L.n R' X') _ _)
    ⟨R1, y.X, N1, L, dV_in R1 y.X N1 L, hok1, hpk, ob_mk (by simp only [Nat.beq_refl, nble, Bool.true_and, Bool.and_eq_true, decide_eq_true_eq]; omega) fun R' X' hd => ⟨_, ⟨R', X', rfl, hd⟩, t14_le hp most R' X' (N1 - (L.n : Nat)) i L y.m y.par (L.n : Int) _⟩⟩) ?_
  rintro st' ⟨y3, ⟨R', X', rfl, hd⟩, h⟩
  refine Tr.le h ?_
  refine TrR.nx (by kernel_rfl) (TrR.leaf mixed tbS_ok (w22 D p most i L y.m y.par (L.n : Int) (yR (yP (yC (yR y R1 y.X N1) t) (shaD t)) R' X' (N1 - (L.n : Nat))) _ _) (bc_mk (fun h => absurd (of_decide_eq_true h) (by omega)) fun _ => t11_self hp most i L y.m y.par _)) fun st' h => Tr.le h ?_
  refine TrR.norm (TrR.leaf mixed tbS_ok (w24 D p most i L y.m y.par (yR (yP (yC (yR y R1 y.X N1) t) (shaD t)) R' X' (N1 - (L.n : Nat))) _ _) (ob_mk (by rw [Bool.true_and, Nat.zero_add]; exact nble _) (ob_mk (Nat.beq_refl _) (ob_mk (decide_eq_true (by show (y.A.n + L.n) * 64 ≤ _; omega)) (tH_le hp most i _))))) fun st h => ⟨_, ?_, h⟩
  have hd' := hd
  unfold dnI at hd'
  refine ⟨hd'.1, ⟨?_, ?_⟩, ?_, hgood, ⟨?_, shaD_size t⟩, allI_cat hall hok1 hpk hd, ?_⟩
  · show _ ≤ N1 - (L.n : Nat); omega
  · show N1 - (L.n : Nat) ≤ _; omega
  · show y.m + 1 ≤ 51; omega
  · show shaD t = prtF (upF y.f y.m t) (y.m + 1)
    rw [prtF_s, upF_at]
  · show y.A.n + L.n ≤ _; omega
theorem tb_for0 (hp : D.n ≤ p) (hm1 : 1 ≤ most) (hm8 : most ≤ 8) (hD : D.n ≤ 100) : Tr Tryz.prog (tbF (bodyOf Tryz.f3)) (tA6 D p (most : Int)) (pr (fun st' => ∃ (k : Nat) (y : TY) (i : Int), (k ≤ 100 ∧ tI k y) ∧ stL st' (tH D p (most : Int) i y)) nope 0 rT) := by
  refine TrR.nx (by kernel_rfl) (TrR.leaf mixed tbS_ok (u7 D p most) (tH0_le hp most)) fun st' h => Tr.le h ?_
  have h0 : tI 0 y0 := by
    refine ⟨okP_0, ⟨by show _ ≤ (0 : Int); omega, by show (0 : Int) ≤ _; omega⟩, by show 0 ≤ 51; omega, fun i hi => absurd hi (Nat.not_lt_zero i), ⟨?_, ?_⟩, ⟨fun i hi => absurd hi (Nat.not_lt_zero i), fun i hi => absurd hi (Nat.not_lt_zero i), fun i hi => absurd hi (Nat.not_lt_zero i)⟩, Nat.le_refl _⟩
    · show firstB = prtF _ 0
      rw [prtF_0]
    · show firstB.size = 32
      rw [show firstB = bstr (List.replicate 32 0) from rfl, bstr_size]
      rfl
  refine TrR.loop (i := 0) (Z := fun st' => ∃ (k : Nat) (y : TY) (i : Int), (k ≤ 100 ∧ tI k y) ∧ stL st' (tH D p (most : Int) i y)) D.n (fun (i : Nat) (y : TY) => tI i y) (fun (i : Nat) (y : TY) => tH D p (most : Int) (i : Int) y) y0 (by kernel_rfl) h0 (tH_self hp most 0 y0) ?_ fun _ h => h
  intro i hi y hI
  refine TrR.nx (by kernel_rfl) (TrR.both (TrR.leaf mixed tbS_ok (uH D p most i y) (bc_mk (fun h => ⟨of_decide_eq_true h, tH_self hp most i y⟩) (fun h => ⟨rfl, tH_self hp most i y⟩))) (fun st h => h) fun st h => ⟨i, y, i, ⟨by omega, hI⟩, h⟩) ?_
  rintro st' ⟨hil, h⟩
  have hil : i < D.n := by omega
  refine Tr.le h ?_
  refine TrR.nx (N1 := fun st' => ∃ y' : TY, tI (i + 1) y' ∧ stL st' (tH D p (most : Int) (i : Int) y')) (by kernel_rfl) (TrR.blkX (i := 1) (by kernel_rfl) (tb_blk hp hm1 hm8 i hil (by omega) y hI) fun st h => h) ?_
  rintro st' ⟨y', h1, h2⟩
  refine Tr.le h2 (TrR.norm (TrR.leaf mixed tbS_ok (u9 D p most i ((i + 1 : Nat) : Int) y' y' _ _) ?_) fun st h => ⟨hil, y', h1, h⟩)
  rw [show IntKind.i64.wrap ((i : Int) + 1) = ((i + 1 : Nat) : Int) from by rw [wrap_i64 _ (by omega) (by omega)]; omega]
  exact tH_self hp most _ y'
theorem tb_for4 (hp : D.n ≤ p) (a : Nat) (y : TY) (ha : a < y.A.n) (hA : allI y.A y.X) (hn : y.A.n ≤ 1000) (X : St → Prop) (id : Nat) : Tr Tryz.prog (sL (tb3 (bodyOf Tryz.f3))) (tK D p (most : Int) (a : Int) y) (pr (fun st' => stL st' (tK D p (most : Int) (a : Int) y)) X id rT) := by
  refine TrR.nx (by kernel_rfl) (TrR.leaf mixed tbS_ok (u28 D p most a y _ _) (tM_self hp most a 0 y)) fun st' h => Tr.le h ?_
  refine TrR.loop (i := 4) (Z := fun st' => stL st' (tK D p (most : Int) (a : Int) y)) a (fun (j : Nat) (_ : Unit) => True) (fun (j : Nat) (_ : Unit) => tM D p (most : Int) (a : Int) (j : Int) y) () (by kernel_rfl) trivial (tM_self hp most a 0 y) ?_ fun _ h => h
  intro j hj _ _
  refine TrR.nx (by kernel_rfl) (TrR.leaf mixed tbS_ok (u29 D p most a j y) (bc_mk (fun h => ⟨of_decide_eq_true h, tM_self hp most a j y⟩) (fun h => ⟨rfl, tK_self hp most a y⟩))) ?_
  rintro st' ⟨hja, h⟩
  have hja : j < a := by omega
  refine Tr.le h ?_
  have d0 : (decide ((0 : Int) ≤ (a : Int)) && decide ((a : Int) < (y.A.n : Int))) = true := by simp only [Bool.and_eq_true, decide_eq_true_eq]; omega
  have d1 : (decide ((0 : Int) ≤ (j : Int)) && decide ((j : Int) < (y.A.n : Int))) = true := by simp only [Bool.and_eq_true, decide_eq_true_eq]; omega
  have d2 : decide (0 + ((a : Nat) : Int).toNat < y.A.n) = true := decide_eq_true (by omega)
  have d3 : decide (0 + ((j : Nat) : Int).toNat < y.A.n) = true := decide_eq_true (by omega)
  have hap := hA.2.1 a ha j hja
  refine TrR.nx (N1 := fun st' => stL st' (tM D p (most : Int) (a : Int) (j : Int) y)) (by kernel_rfl) (TrR.blk (i := 5) (by kernel_rfl) (TrR.leaf mixed tbS_ok (u31 D p most a j y _ _) ?_)) fun st' h => Tr.le h (TrR.norm (TrR.leaf mixed tbS_ok (u30 D p most a j ((j + 1 : Nat) : Int) y _ _) ?_) fun st h => ⟨hja, (), trivial, h⟩)
  · refine ob_mk d0 (ob_mk rfl (ob_mk d2 (ob_mk d1 (ob_mk rfl (ob_mk d3 (bc_mk (fun h1 => ob_mk d0 (ob_mk rfl (ob_mk d2 (ob_mk d1 (ob_mk rfl (ob_mk d3 (bc_mk (fun h2 => ?_) fun _ => tM_self hp most a j y))))))) fun _ => tM_self hp most a j y))))))
    exfalso
    have h2 : (y.A.s (0 + ((a : Nat) : Int).toNat) == y.A.s (0 + ((j : Nat) : Int).toNat)) = true := h2
    rw [show 0 + ((a : Nat) : Int).toNat = a from by omega, show 0 + ((j : Nat) : Int).toNat = j from by omega] at h1 h2
    rw [beq_iff_eq] at h1 h2
    rw [h1, h2] at hap
    simp at hap
  · rw [show IntKind.i64.wrap ((j : Int) + 1) = ((j + 1 : Nat) : Int) from by rw [wrap_i64 _ (by omega) (by omega)]; omega]
    exact tM_self hp most a _ y
theorem tb_for2 (hp : D.n ≤ p) (k : Nat) (hk : k ≤ 100) (y : TY) (hI : tI k y) (i : Int) : Tr Tryz.prog (tbG (bodyOf Tryz.f3)) (tH D p (most : Int) i y) (pr (fun st' => ∃ a : Int, stL st' (tK D p (most : Int) a y)) nope 0 rT) := by
  have hI' := hI
  unfold tI at hI'
  obtain ⟨hok, ⟨hN0, hN1⟩, hm, hg, ⟨hpar, hps⟩, hall, hAn⟩ := hI'
  refine TrR.nx (by kernel_rfl) (TrR.leaf mixed tbS_ok (u25 D p most i y) (tK_self hp most 0 y)) fun st' h => Tr.le h ?_
  refine TrR.loop (i := 2) (Z := fun st' => ∃ a : Int, stL st' (tK D p (most : Int) a y)) y.A.n (fun (a : Nat) (_ : Unit) => True) (fun (a : Nat) (_ : Unit) => tK D p (most : Int) (a : Int) y) () (by kernel_rfl) trivial (tK_self hp most 0 y) ?_ fun _ h => h
  intro a ha _ _
  refine TrR.nx (by kernel_rfl) (TrR.both (TrR.leaf mixed tbS_ok (u26 D p most a y) (bc_mk (fun h => ⟨of_decide_eq_true h, tK_self hp most a y⟩) (fun h => ⟨rfl, tK_self hp most a y⟩))) (fun st h => h) fun st h => ⟨_, h⟩) ?_
  rintro st' ⟨hal, h⟩
  have hal : a < y.A.n := by omega
  refine Tr.le h ?_
  have hix : 0 + ((a : Nat) : Int).toNat = a := by omega
  refine TrR.nx (N1 := fun st' => stL st' (tK D p (most : Int) (a : Int) y)) (by kernel_rfl) (TrR.blk (i := 3) (by kernel_rfl) ?_) fun st' h => Tr.le h (TrR.norm (TrR.leaf mixed tbS_ok (u27 D p most a ((a + 1 : Nat) : Int) y y _ _) ?_) fun st h => ⟨hal, (), trivial, h⟩)
  · refine TrR.nx (by kernel_rfl) (tb_for4 hp a y hal hall (by omega) _ _) fun st' h => Tr.le h ?_
    obtain ⟨q, hq, hc, hs⟩ := hall.1 a hal
    have hsm := hall.2.2 a hal
    refine TrR.norm (TrR.leaf mixed tbS_ok (u33 D p most a y (fun y' => y' = y) _ _) (ob_mk (by simp only [Bool.and_eq_true, decide_eq_true_eq]; omega) (ob_mk rfl (ob_mk (decide_eq_true (by omega)) ⟨y.R, y.X, y.N, pV_in y.R y.X y.N, hok, ob_mk ?_ ⟨fun z hz => bc_mk (fun h => absurd (by simpa using h) hz) fun _ => ⟨y, rfl, tK_le hp most y.R y.X y.N a y⟩, fun hX => ?_⟩⟩)))) fun st ⟨y', e, hh⟩ => by subst e; exact hh
    · rw [hix]
      simp only [Bool.and_eq_true, decide_eq_true_eq]
      omega
    · exfalso
      rw [hix, hc, show ((q : Nat) : Int).toNat = q from by omega] at hX
      omega
  · rw [show IntKind.i64.wrap ((a : Int) + 1) = ((a + 1 : Nat) : Int) from by rw [wrap_i64 _ (by omega) (by omega)]; omega]
    exact tK_self hp most _ y
theorem tb_tr (hp : D.n ≤ p) (most : Int) : Tr Tryz.prog (bodyOf Tryz.f3) ⟨[(0, .slc 0 0 D.n p 8), (1, .v (.int .i64 most))], 162, [.tab false D.n D.cols], [], 1⟩ (pr nope nope 0 rT) := by
  refine TrR.nx (by kernel_rfl) (TrR.leaf mixed tbS_ok (u0 D p most) (tA_self hp most)) fun st' h => Tr.le h ?_
  refine TrR.nx (by kernel_rfl) (TrR.leaf mixed tbS_ok (u1 D p most (D.n ≤ 100 ∧ 1 ≤ most ∧ most ≤ 8)) (bc_mk (fun _ => rfl) fun h1 => bc_mk (fun _ => rfl) fun h2 => bc_mk (fun _ => rfl) fun h3 => ⟨⟨by have := of_decide_eq_false h1; omega, by have := of_decide_eq_false (show decide (most < 1) = false from h2); omega, by have := of_decide_eq_false (show decide (most > 8) = false from h3); omega⟩, tA_self hp most⟩)) ?_
  rintro st' ⟨⟨hD, hm1, hm8⟩, h⟩
  refine Tr.le h ?_
  obtain ⟨most, rfl⟩ := Int.eq_ofNat_of_zero_le (show 0 ≤ most by omega)
  refine TrR.nx (by kernel_rfl) (TrR.leaf mixed tbS_ok (u3 D p most) (tA3_le hp most)) fun st' h => Tr.le h ?_
  refine TrR.nx (by kernel_rfl) (TrR.leaf mixed tbS_ok (u4 D p most) (tA4_self hp most)) fun st' h => Tr.le h ?_
  refine TrR.nx (by kernel_rfl) (TrR.leaf mixed tbS_ok (u5 D p most) (tA5_self hp most)) fun st' h => Tr.le h ?_
  refine TrR.nx (by kernel_rfl) (TrR.leaf mixed tbS_ok (u6 D p most) (tA6_self hp most)) fun st' h => Tr.le h ?_
  refine TrR.nx (by kernel_rfl) (tb_for0 hp (by omega) (by omega) hD) ?_
  rintro st' ⟨k, y, i, ⟨hk, hI⟩, h⟩
  refine Tr.le h ?_
  refine TrR.nx (by kernel_rfl) (tb_for2 hp k hk y hI i) ?_
  rintro st' ⟨a, h⟩
  refine Tr.le h ?_
  unfold tI at hI
  obtain ⟨_, _, hm, hg, _⟩ := hI
  refine TrR.nx (by kernel_rfl) (TrR.leaf mixed tbS_ok (u35 D p most a y) ⟨hg, ob_mk (by simp only [Nat.beq_refl, nble, Bool.true_and, decide_eq_true_eq]; omega) (tZ_self hp most _ 0 y)⟩) fun st' h => Tr.le h ?_
  exact TrR.leaf mixed tbS_ok (u36 D p most (y.m : Int) 0 y) (bc_mk (fun _ => bc_mk (fun _ => rfl) fun h => by simp at h) fun h => by simp at h)
end
def blocksS : Spec := .q fun args blks K => ∃ (D : DT) (p : Nat) (most : Int), args = [.slc 0 0 D.n p 8, .v (.int .i64 most)] ∧ blks = [.tab false D.n D.cols] ∧ D.n ≤ p ∧ K (.v (.bool true))
theorem tb_res : (Tryz.f3).results.toList = [.tmp 4] := by kernel_rfl
theorem blocks_ok : SpecOK Tryz.prog 3 blocksS := by
  refine q_tr Tryz.func3 rfl rfl fun args blks K h => ?_
  obtain ⟨D, p, most, rfl, rfl, hp, hK⟩ := h
  refine ⟨_, rfl, hK, rfl, FnOK.of_tr (c := bodyOf Tryz.f3) Tryz.func3 (by kernel_rfl) (by kernel_rfl) ?_⟩
  show Tr Tryz.prog (bodyOf Tryz.f3) ⟨[(0, .slc 0 0 D.n p 8), (1, .v (.int .i64 most))], 162, [.tab false D.n D.cols], [], 1⟩ _
  refine (tb_tr hp most).mono fun e st hq => ?_
  cases e with
  | norm => exact hq.elim
  | exit i => exact hq.2.elim
  | ret =>
    have hq : look st.env 4 = some (.v (.bool true)) := hq
    unfold endQ
    dsimp only
    rw [tb_res]
    simp only [resL, resS, hq]
    rfl

end Go.Proofs.YtmnenigmkfnciaaGreatDoor.Sx
