/- TopBlocks: the law of picks, the clients, the pool as a call sees it. No condition. -/
import Derived.Test.YtmnenigmkfnciaaGreatDoorSx13
import Derived.Test.YtmnenigmkfnciaaGreatDoorProg
import Derived.Test.YtmnenigmkfnciaaGreatDoorBase
import Derived.Test.YtmnenigmkfnciaaGreatDoorMB
import Derived.Test.YtmnenigmkfnciaaGreatDoorMC
import Derived.Test.YtmnenigmkfnciaaGreatDoorMD
import Derived.Test.YtmnenigmkfnciaaGreatDoorME
import Derived.Test.YtmnenigmkfnciaaGreatDoorCliO
import Derived.Test.YtmnenigmkfnciaaGreatDoorSx14
/- Picks: the plain law. No condition. -/
namespace Go.Proofs.YtmnenigmkfnciaaGreatDoor.Sx
open Go Go.Proofs
set_option maxRecDepth 100000
set_option linter.unusedSimpArgs false
set_option linter.unusedVariables false

theorem beqN_false {a b : Nat} (h : a ≠ b) : Nat.beq a b = false := by
  cases hb : Nat.beq a b with
  | false => rfl
  | true => exact absurd (Nat.eq_of_beq_eq_true hb) h
def cntR (f : Nat → Int) (q : Nat) : Nat → Nat
  | 0 => 0
  | i + 1 => cntR f q i + (if f i = (q : Int) then 1 else 0)
theorem cntR_congr {f g : Nat → Int} (q : Nat) : ∀ n, (∀ i, i < n → f i = g i) → cntR f q n = cntR g q n
  | 0, _ => rfl
  | n + 1, h => by rw [cntR, cntR, cntR_congr q n fun i hi => h i (by omega), h n (by omega)]
theorem cntR_hit {f : Nat → Int} {q n : Nat} (h : f n = (q : Int)) : cntR f q (n + 1) = cntR f q n + 1 := by rw [cntR, if_pos h]
theorem cntR_miss {f : Nat → Int} {q n : Nat} (h : f n ≠ (q : Int)) : cntR f q (n + 1) = cntR f q n := by rw [cntR, if_neg h, Nat.add_zero]
theorem cntR_mono (f : Nat → Int) (q : Nat) {i : Nat} : ∀ j, i ≤ j → cntR f q i ≤ cntR f q j
  | 0, h => by have : i = 0 := by omega
               subst this; exact Nat.le_refl _
  | j + 1, h => by
    rcases Nat.lt_or_ge j i with h1 | h1
    · have : i = j + 1 := by omega
      subst this; exact Nat.le_refl _
    · exact Nat.le_trans (cntR_mono f q j h1) (by rw [cntR]; omega)
theorem cntR_lt {f : Nat → Int} {q i j : Nat} (h : f i = (q : Int)) (hij : i < j) : cntR f q i < cntR f q j := by
  have h1 := cntR_mono f q j (show i + 1 ≤ j from hij)
  rw [cntR_hit h] at h1
  omega
theorem upF_lt {α : Type} (f : Nat → α) (n : Nat) (x : α) {i : Nat} (h : i < n) : upF f n x i = f i := by
  unfold upF; rw [beqN_false (by omega)]; rfl
theorem upF_at {α : Type} (f : Nat → α) (n : Nat) (x : α) : upF f n x n = x := by
  unfold upF; rw [Nat.beq_refl]; rfl
def rowEq (L : RT) (i : Nat) (r : RT) (j : Nat) : Prop := (L.c i = r.c j ∧ L.s i = r.s j) ∧ (L.k i = r.k j ∧ L.e i = r.e j) ∧ L.nm i = r.nm j ∧ L.b i = r.b j
def PickOK (R : Nat → RT) (L : RT) : Prop := ∀ i, i < L.n → ∃ q : Nat, q < 16 ∧ L.c i = (q : Int) ∧ cntR L.c q i < (R q).n ∧ rowEq L i (R q) (cntR L.c q i)
def okP (R : Nat → RT) (X : Nat → Nat) : Prop := ∀ q : Nat, q < 16 → risR (R q) ∧ (R q).n ≤ 4 ∧ ∀ j, j < (R q).n → ((R q).c j = (q : Int) ∧ ((X q : Nat) : Int) ≤ (R q).s j) ∧
  reqOK ((R q).c j) ((R q).s j) ((R q).k j) ((R q).e j) ((R q).nm j) ((R q).b j) = true ∧ ((R q).nm j).size + ((R q).b j).size ≤ 416
def pkI (R : Nat → RT) (l : List Int) (most ro a : Nat) (L : RT) : Prop :=
  PickOK R L ∧ L.n ≤ most ∧ (L.n < most → ∀ b, b < l.length → cntR L.c (l.getD b 0).toNat L.n = min (R (l.getD b 0).toNat).n (if b < a then ro + 1 else ro))
theorem pkI_0 (R : Nat → RT) (l : List Int) (most : Nat) (L : RT) (h : L.n = 0) : pkI R l most 0 0 L := by
  refine ⟨fun i hi => by omega, by omega, fun _ b hb => ?_⟩
  rw [h, cntR]; simp
theorem pkI_turn {R : Nat → RT} {l : List Int} {most ro : Nat} {L : RT} (h : pkI R l most ro l.length L) : pkI R l most (ro + 1) 0 L := by
  refine ⟨h.1, h.2.1, fun hm b hb => ?_⟩
  rw [h.2.2 hm b hb, if_pos hb, if_neg (by omega)]
theorem pkI_skip {R : Nat → RT} {l : List Int} {most ro a : Nat} {L : RT} (h : pkI R l most ro a L) (hno : (R (l.getD a 0).toNat).n ≤ ro ∨ most ≤ L.n) : pkI R l most ro (a + 1) L := by
  refine ⟨h.1, h.2.1, fun hm b hb => ?_⟩
  have h1 := h.2.2 hm b hb
  by_cases e : b = a
  · subst e
    rw [if_neg (by omega)] at h1
    rw [if_pos (by omega), h1]
    omega
  · rw [h1]
    by_cases g : b < a
    · rw [if_pos g, if_pos (by omega)]
    · rw [if_neg g, if_neg (by omega)]
theorem getD_ne {l : List Int} (hn : l.Nodup) {a b : Nat} (ha : a < l.length) (hb : b < l.length) (h : a ≠ b) : l.getD a 0 ≠ l.getD b 0 := by
  rw [List.getD_eq_getElem?_getD, List.getD_eq_getElem?_getD, List.getElem?_eq_getElem ha, List.getElem?_eq_getElem hb]
  simp only [Option.getD_some]
  intro he
  exact h ((List.getElem_inj hn).1 he)
theorem getD_mem {l : List Int} {a : Nat} (ha : a < l.length) : l.getD a 0 ∈ l := by
  rw [List.getD_eq_getElem?_getD, List.getElem?_eq_getElem ha]
  exact List.getElem_mem ha
theorem pkI_push {R : Nat → RT} {l : List Int} {most ro a : Nat} {L : RT} (hn : l.Nodup) (hl : ∀ x ∈ l, 0 ≤ x ∧ x < 16) (ha : a < l.length) (h : pkI R l most ro a L) {q : Nat} (hq : l.getD a 0 = (q : Int)) (hq16 : q < 16)
    (hc : (R q).c ro = (q : Int)) (hro : ro < (R q).n) (hm : L.n < most) : pkI R l most ro (a + 1) (L.push ((R q).c ro) ((R q).s ro) ((R q).k ro) ((R q).e ro) ((R q).nm ro) ((R q).b ro)) := by
  have hcn : ∀ p i, i ≤ L.n → cntR (upF L.c L.n ((R q).c ro)) p i = cntR L.c p i := fun p i hi => cntR_congr p i fun j hj => upF_lt _ _ _ (by omega)
  have hcq : cntR L.c q L.n = ro := by
    have h1 := h.2.2 hm a ha
    rw [if_neg (by omega), hq] at h1
    simp only [Int.toNat_natCast] at h1
    omega
  refine ⟨fun i hi => ?_, by show L.n + 1 ≤ most; omega, fun hm' b hb => ?_⟩
  · rcases Nat.lt_or_ge i L.n with h1 | h1
    · obtain ⟨p, hp, g1, g2, g3⟩ := h.1 i h1
      refine ⟨p, hp, ?_, ?_, ?_⟩
      · show upF L.c L.n _ i = _
        rw [upF_lt _ _ _ h1]; exact g1
      · show cntR (upF L.c L.n _) p i < _
        rw [hcn p i (by omega)]; exact g2
      · show rowEq _ _ _ (cntR (upF L.c L.n _) p i)
        rw [hcn p i (by omega)]
        unfold rowEq RT.push
        simp only [upF_lt _ _ _ h1]
        exact g3
    · have hi' : i = L.n := by
        have : i < L.n + 1 := hi
        omega
      subst hi'
      refine ⟨q, hq16, ?_, ?_, ?_⟩
      · show upF L.c L.n _ L.n = _
        rw [upF_at]; exact hc
      · show cntR (upF L.c L.n _) q L.n < _
        rw [hcn q _ (Nat.le_refl _), hcq]; exact hro
      · show rowEq _ _ _ (cntR (upF L.c L.n _) q L.n)
        rw [hcn q _ (Nat.le_refl _), hcq]
        unfold rowEq RT.push
        simp only [upF_at]
        trivial
  · show cntR (upF L.c L.n _) _ (L.n + 1) = _
    have h1 := h.2.2 hm b hb
    by_cases e : b = a
    · subst e
      rw [hq] at h1 ⊢
      simp only [Int.toNat_natCast] at h1 ⊢
      rw [cntR_hit (by rw [upF_at]; exact hc), hcn _ _ (Nat.le_refl _), if_pos (by omega), hcq]
      omega
    · have hne := getD_ne hn hb ha e
      have hr := hl _ (getD_mem hb)
      rw [cntR_miss (by rw [upF_at, hc]; rw [hq] at hne; omega), hcn _ _ (Nat.le_refl _), h1]
      by_cases g : b < a
      · rw [if_pos g, if_pos (by omega)]
      · rw [if_neg g, if_neg (by omega)]
theorem pick_all {R : Nat → RT} {X : Nat → Nat} {L : RT} (h : okP R X) (hp : PickOK R L) : allOKR L.n L.c L.s L.k L.e L.nm L.b ∧ smallR L.n L.nm L.b ∧ apartR L.n L.c L.s := by
  refine ⟨fun i hi => ?_, fun i hi => ?_, fun i hi j hj => ?_⟩
  · obtain ⟨q, hq, _, g2, ⟨e1, e2⟩, ⟨e3, e4⟩, e5, e6⟩ := hp i hi
    rw [e1, e2, e3, e4, e5, e6]
    exact ((h q hq).2.2 _ g2).2.1
  · obtain ⟨q, hq, _, g2, ⟨e1, e2⟩, ⟨e3, e4⟩, e5, e6⟩ := hp i hi
    rw [e5, e6]
    exact ((h q hq).2.2 _ g2).2.2
  · obtain ⟨q, hq, f1, f2, ⟨f3, f4⟩, _⟩ := hp i hi
    obtain ⟨p, hp', g1, g2, ⟨g3, g4⟩, _⟩ := hp j (by omega)
    rw [Bool.and_eq_false_iff]
    by_cases e : L.c j = L.c i
    · right
      have : p = q := by omega
      subst this
      have h1 := (h p hq).1.2 _ _ (cntR_lt g1 hj) f2
      rw [← f4, ← g4] at h1
      simp; omega
    · left; simpa using e
/-- A table of numbers with another one at one place. -/
def updX (X : Nat → Nat) (c v : Nat) : Nat → Nat := fun q => cond (Nat.beq q c) v (X q)
theorem updX_ne (X : Nat → Nat) {c q : Nat} (v : Nat) (h : q ≠ c) : updX X c v q = X q := by
  unfold updX; rw [beqN_false h]; rfl
theorem updX_eq (X : Nat → Nat) (c v : Nat) : updX X c v c = v := by
  unfold updX; rw [Nat.beq_refl]; rfl
theorem place_one {r : RT} {a : Nat} {b : Bool} (h : risR r) (hn : 1 ≤ r.n) (hp : placeR r (r.s 0 + 1) a b) : a = 1 := by
  obtain ⟨h1, h2, h3, _⟩ := hp
  rcases Nat.lt_or_ge a 1 with h4 | h4
  · have := h3 0 (by omega) (by omega)
    omega
  · rcases Nat.lt_or_ge 1 a with h5 | h5
    · have := h2 1 h5
      have := h.2 0 1 (by omega) (by omega)
      omega
    · omega
theorem ris_del {r : RT} (h : risR r) : risR r.del := by
  refine ⟨fun i hi => h.1 (i + 1) ?_, fun i j hij hj => h.2 (i + 1) (j + 1) (by omega) ?_⟩
  · have : i < r.n - 1 := hi
    omega
  · have : j < r.n - 1 := hj
    omega
def dnI (R : Nat → RT) (X : Nat → Nat) (L : RT) (i : Nat) (R' : Nat → RT) (X' : Nat → Nat) : Prop :=
  okP R' X' ∧ (∀ q : Nat, q < 16 → (R' q).n + cntR L.c q i = (R q).n ∧ ∀ j, j < (R' q).n → (R' q).s j = (R q).s (j + cntR L.c q i)) ∧ (∀ q, X q ≤ X' q) ∧ ∀ j, j < i → L.s j < ((X' (L.c j).toNat : Nat) : Int)
theorem dnI_0 {R : Nat → RT} {X : Nat → Nat} (L : RT) (h : okP R X) : dnI R X L 0 R X :=
  ⟨h, fun q hq => ⟨rfl, fun j hj => rfl⟩, fun q => Nat.le_refl _, fun j hj => by omega⟩
theorem dnI_head {R R' : Nat → RT} {X X' : Nat → Nat} {L : RT} {i q : Nat} (h : dnI R X L i R' X') (hp : PickOK R L) (hi : i < L.n) (hq : L.c i = (q : Int)) (hq16 : q < 16) : 1 ≤ (R' q).n ∧ L.s i = (R' q).s 0 ∧ ((X' q : Nat) : Int) ≤ L.s i ∧ 0 ≤ L.s i ∧ L.s i < 2147483648 := by
  obtain ⟨p, hp16, f1, f2, ⟨f3, f4⟩, _⟩ := hp i hi
  have : p = q := by omega
  subst this
  obtain ⟨g1, g2⟩ := h.2.1 p hq16
  have g3 := g2 0 (by omega)
  rw [Nat.zero_add] at g3
  have g4 := (h.1 p hq16).2.2 0 (by omega)
  have g5 := (h.1 p hq16).1.1 0 (by omega)
  rw [f4, ← g3]
  exact ⟨by omega, rfl, g4.1.2, g5.1, g5.2⟩
theorem dnI_step {R R' : Nat → RT} {X X' : Nat → Nat} {L : RT} {i q : Nat} (h : dnI R X L i R' X') (hp : PickOK R L) (hi : i < L.n) (hq : L.c i = (q : Int)) (hq16 : q < 16) : dnI R X L (i + 1) (updR R' q (R' q).del) (updX X' q (L.s i + 1).toNat) := by
  obtain ⟨a1, a2, a3, a4, a5⟩ := dnI_head h hp hi hq hq16
  obtain ⟨b1, b2, b3, b4⟩ := h
  have hd : (R' q).del.n = (R' q).n - 1 := rfl
  refine ⟨fun p hp16 => ?_, fun p hp16 => ?_, fun p => ?_, fun j hj => ?_⟩
  · by_cases e : p = q
    · subst e
      rw [updR_eq, updX_eq]
      obtain ⟨c1, c2, c3⟩ := b1 p hp16
      refine ⟨ris_del c1, by omega, fun j hj => ?_⟩
      have hj' : j + 1 < (R' p).n := by omega
      have d1 := c3 (j + 1) hj'
      have d2 := c1.2 0 (j + 1) (by omega) hj'
      refine ⟨⟨d1.1.1, ?_⟩, d1.2⟩
      show _ ≤ (R' p).s (j + 1)
      omega
    · rw [updR_ne _ _ e, updX_ne _ _ e]
      exact b1 p hp16
  · obtain ⟨c1, c2⟩ := b2 p hp16
    by_cases e : p = q
    · subst e
      rw [updR_eq, cntR_hit hq]
      refine ⟨by omega, fun j hj => ?_⟩
      have := c2 (j + 1) (by omega)
      show (R' p).s (j + 1) = _
      rw [this]; congr 1; omega
    · rw [updR_ne _ _ e, cntR_miss (by omega)]
      exact ⟨c1, c2⟩
  · by_cases e : p = q
    · subst e
      rw [updX_eq]
      have := b3 p
      omega
    · rw [updX_ne _ _ e]; exact b3 p
  · by_cases e : (L.c j).toNat = q
    · rw [e, updX_eq]
      rcases Nat.lt_or_ge j i with h1 | h1
      · have := b4 j h1
        rw [e] at this
        omega
      · have : j = i := by omega
        subst this
        omega
    · rw [updX_ne _ _ e]
      rcases Nat.lt_or_ge j i with h1 | h1
      · exact b4 j h1
      · exact absurd (by have : j = i := by omega
                         subst this; omega) e
/-- A put of a request that was not there. -/
theorem insF_lt {α : Type} (f : Nat → α) (i : Nat) (x : α) {q : Nat} (h : q < i) : insF f i x q = f q := by
  unfold insF; rw [show Nat.blt q i = true from by simpa [Nat.blt_eq] using h]; rfl
theorem insF_at {α : Type} (f : Nat → α) (i : Nat) (x : α) : insF f i x i = x := by
  unfold insF
  have hb : Nat.blt i i = false := by
    cases h : Nat.blt i i with
    | false => rfl
    | true =>
      rw [Nat.blt_eq] at h
      exact absurd h (Nat.lt_irrefl i)
  rw [hb, Nat.beq_refl]; rfl
theorem insF_gt {α : Type} (f : Nat → α) (i : Nat) (x : α) {q : Nat} (h : i < q) : insF f i x q = f (q - 1) := by
  unfold insF
  rw [show Nat.blt q i = false from by cases hb : Nat.blt q i with | false => rfl | true => exact absurd (show q < i by simpa [Nat.blt_eq] using hb) (by omega), beqN_false (by omega)]; rfl
theorem okP_ins {R : Nat → RT} {X : Nat → Nat} (h : okP R X) {c i : Nat} (hc : c < 16) {s k e : Int} {n b : ByteArray} (h4 : ¬ 4 ≤ (R c).n) (hX : ((X c : Nat) : Int) ≤ s) (hp : placeR (R c) s i false) (hr : reqOK (c : Int) s k e n b = true) (hs : 0 ≤ s ∧ s < 2147483648) (hz : n.size + b.size ≤ 416) :
    okP (updR R c ((R c).ins i (c : Int) s k e n b)) X := fun p hp16 => by
  by_cases e' : p = c
  · subst e'
    rw [updR_eq]
    obtain ⟨c1, c2, c3⟩ := h p hp16
    obtain ⟨p1, p2, p3, p4⟩ := hp
    have hni : ∀ q, i ≤ q → q < (R p).n → s < (R p).s q := fun q h1 h2 => by
      have h3 := p3 q h1 h2
      have h4 : (R p).s q ≠ s := fun h5 => by
        rcases Nat.lt_or_ge i q with h6 | h6
        · have := c1.2 i q h6 h2
          have := p3 i (Nat.le_refl _) (by omega)
          omega
        · have : q = i := by omega
          subst this
          have := p4.2 ⟨h2, h5⟩
          cases this
      omega
    have hn : ((R p).ins i (p : Int) s k e n b).n = (R p).n + 1 := rfl
    have hS : ((R p).ins i (p : Int) s k e n b).s = insF (R p).s i s := rfl
    refine ⟨⟨fun j hj => ?_, fun j j' hjj hj => ?_⟩, by omega, fun j hj => ?_⟩
    · rw [hS]
      rcases Nat.lt_trichotomy j i with g | g | g
      · rw [insF_lt _ _ _ g]; exact c1.1 j (by omega)
      · subst g; rw [insF_at]; exact hs
      · rw [insF_gt _ _ _ g]; exact c1.1 (j - 1) (by omega)
    · rw [hS]
      rcases Nat.lt_trichotomy j i with g | g | g <;> rcases Nat.lt_trichotomy j' i with g' | g' | g'
      · rw [insF_lt _ _ _ g, insF_lt _ _ _ g']; exact c1.2 j j' hjj (by omega)
      · subst g'; rw [insF_lt _ _ _ g, insF_at]; exact p2 j g
      · rw [insF_lt _ _ _ g, insF_gt _ _ _ g']
        have h1 := p2 j g
        have h2 := hni (j' - 1) (by omega) (by omega)
        omega
      · omega
      · omega
      · subst g; rw [insF_at, insF_gt _ _ _ g']; exact hni (j' - 1) (by omega) (by omega)
      · omega
      · omega
      · rw [insF_gt _ _ _ g, insF_gt _ _ _ g']; exact c1.2 (j - 1) (j' - 1) (by omega) (by omega)
    · unfold RT.ins
      dsimp only
      rcases Nat.lt_trichotomy j i with g | g | g
      · simp only [insF_lt _ _ _ g]; exact c3 j (by omega)
      · subst g; simp only [insF_at]; exact ⟨⟨trivial, hX⟩, hr, hz⟩
      · simp only [insF_gt _ _ _ g]; exact c3 (j - 1) (by omega)
  · rw [updR_ne _ _ e']; exact h p hp16
def allI (A : RT) (X : Nat → Nat) : Prop := (∀ i, i < A.n → ∃ q : Nat, q < 16 ∧ A.c i = (q : Int) ∧ A.s i < ((X q : Nat) : Int)) ∧ apartR A.n A.c A.s ∧ smallR A.n A.nm A.b
theorem allI_mono {A : RT} {X X' : Nat → Nat} (h : allI A X) (hX : ∀ q, X q ≤ X' q) : allI A X' :=
  ⟨fun i hi => by obtain ⟨q, hq, h1, h2⟩ := h.1 i hi; exact ⟨q, hq, h1, by have := hX q; omega⟩, h.2⟩
/-- One list behind another. -/
def catN {α : Type} (f : Nat → α) (n : Nat) (g : Nat → α) : Nat → α := fun q => cond (Nat.blt q n) (f q) (g (q - n))
theorem catN_lt {α : Type} (f : Nat → α) (n : Nat) (g : Nat → α) {q : Nat} (h : q < n) : catN f n g q = f q := by
  unfold catN; rw [show Nat.blt q n = true from by simpa [Nat.blt_eq] using h]; rfl
theorem catN_ge {α : Type} (f : Nat → α) (n : Nat) (g : Nat → α) {q : Nat} (h : ¬ q < n) : catN f n g q = g (q - n) := by
  unfold catN
  cases hb : Nat.blt q n with
  | false => rfl
  | true => exact absurd (show q < n by simpa [Nat.blt_eq] using hb) h
def RT.cat (A L : RT) : RT := ⟨A.n + L.n, catN A.c A.n L.c, catN A.s A.n L.s, catN A.k A.n L.k, catN A.e A.n L.e, catN A.nm A.n L.nm, catN A.b A.n L.b⟩
theorem allI_cat {R R' : Nat → RT} {X X' : Nat → Nat} {A L : RT} (hA : allI A X) (h : okP R X) (hp : PickOK R L) (hd : dnI R X L L.n R' X') : allI (A.cat L) X' := by
  obtain ⟨p1, p2, p3⟩ := pick_all h hp
  have hA' := allI_mono hA hd.2.2.1
  have hlt : ∀ {α : Type} (f g : Nat → α) (q : Nat), q < A.n → catN f A.n g q = f q := fun f g q hq => catN_lt f A.n g hq
  have hge : ∀ {α : Type} (f g : Nat → α) (q : Nat), ¬ q < A.n → catN f A.n g q = g (q - A.n) := fun f g q hq => catN_ge f A.n g hq
  refine ⟨fun i hi => ?_, fun i hi j hj => ?_, fun i hi => ?_⟩
  · show ∃ q : Nat, q < 16 ∧ catN A.c A.n L.c i = _ ∧ catN A.s A.n L.s i < _
    have hi : i < A.n + L.n := hi
    by_cases g : i < A.n
    · rw [hlt _ _ _ g, hlt _ _ _ g]; exact hA'.1 i g
    · rw [hge _ _ _ g, hge _ _ _ g]
      obtain ⟨q, hq, f1, _⟩ := hp (i - A.n) (by omega)
      have := hd.2.2.2 (i - A.n) (by omega)
      rw [f1] at this
      exact ⟨q, hq, f1, by simpa using this⟩
  · show (catN A.c A.n L.c j == catN A.c A.n L.c i && catN A.s A.n L.s j == catN A.s A.n L.s i) = false
    have hi : i < A.n + L.n := hi
    by_cases g : i < A.n
    · rw [hlt _ _ _ g, hlt _ _ _ g, hlt _ _ _ (show j < A.n by omega), hlt _ _ _ (show j < A.n by omega)]
      exact hA.2.1 i g j hj
    · rw [hge _ _ _ g, hge _ _ _ g]
      by_cases g' : j < A.n
      · rw [hlt _ _ _ g', hlt _ _ _ g']
        obtain ⟨q, hq, f1, f2, ⟨f3, f4⟩, _⟩ := hp (i - A.n) (by omega)
        obtain ⟨p, hp', e1, e2⟩ := hA.1 j g'
        rw [Bool.and_eq_false_iff]
        by_cases e : A.c j = L.c (i - A.n)
        · right
          have : p = q := by omega
          subst this
          have := ((h p hq).2.2 _ f2).1.2
          rw [← f4] at this
          simp; omega
        · left; simpa using e
      · rw [hge _ _ _ g', hge _ _ _ g']
        exact p3 (i - A.n) (by omega) (j - A.n) (by omega)
  · show (catN A.nm A.n L.nm i).size + (catN A.b A.n L.b i).size ≤ 416
    have hi : i < A.n + L.n := hi
    by_cases g : i < A.n
    · rw [hlt _ _ _ g, hlt _ _ _ g]; exact hA.2.2 i g
    · rw [hge _ _ _ g, hge _ _ _ g]; exact p2 (i - A.n) (by omega)

end Go.Proofs.YtmnenigmkfnciaaGreatDoor.Sx
/- pool: the clients that have requests, by contract. No condition. -/
namespace Go.Proofs.YtmnenigmkfnciaaGreatDoor.Sx
open Go Go.Proofs
set_option maxRecDepth 100000
set_option linter.unusedSimpArgs false
set_option linter.unusedVariables false

theorem TOK.addB {ρ : Nat → Nat} {σ : Nat → Nat × Nat} {B : Base} {tbl : List Blk} {w : World} (h : TOK ρ σ B tbl w) {b : Blk} {g : Nat} {z : Nat × Nat} {pre : List Value} (hg : B.w0.heap.size ≤ g) (hm : ∀ i c, tbl[i]? = some c → ρ i = g → c.isMap = true ∨ (σ i).1 = 0 ∨ c.isDead = true) (hbm : b.isMap = false) (hp : (z.1 = 0 ∧ b.len = 0) ∨ (Pre tbl.length ρ σ b pre ∧ Lies w g z pre)) :
    TOK (upd ρ tbl.length g) (upd σ tbl.length z) B (tbl ++ [b]) w := by
  have hag : ∀ i, i < tbl.length → upd ρ tbl.length g i = ρ i ∧ upd σ tbl.length z i = σ i := fun i hi => ⟨upd_ne _ _ (by omega), upd_ne _ _ (by omega)⟩
  refine ⟨h.gl, h.fr, fun i c hi hd => ?_, fun i c hi hw hs => ?_, fun i c hi hw hs => ?_, fun i j c d hi hj hc hd hx hsi hsj he => ?_, ?_⟩
  rotate_left 4
  · refine h.mok.via id (fun i c hi hm => ?_) (fun _ _ _ _ _ _ _ _ h => h)
    rcases getElem?_snoc hi with ⟨hl, hi⟩ | ⟨rfl, rfl⟩
    · exact ⟨c, hi, hm, (hag i hl).1, rfl, fun o ho => ho.mono (by simp) (fun i hi _ => hag i hi), fun h => h, fun h => h, fun _ h => h⟩
    · rw [hbm] at hm; cases hm
  · rcases getElem?_snoc hi with ⟨hl', hi⟩ | ⟨rfl, rfl⟩
    · rw [(hag i hl').1, (hag i hl').2]
      rcases h.lies i c hi hd with h0 | ⟨pre, hp', hl''⟩
      · exact .inl h0
      · exact .inr ⟨pre, hp'.mono (by simp) (fun i hi _ => hag i hi), hl''⟩
    · rw [upd_same, upd_same]
      rcases hp with hp | ⟨hp, hl⟩
      · exact .inl hp
      · exact .inr ⟨_, hp.mono (by simp) (fun i hi _ => hag i hi), hl⟩
  · rcases getElem?_snoc hi with ⟨hl', hi⟩ | ⟨rfl, rfl⟩
    · rw [(hag i hl').2] at hs; rw [(hag i hl').1]; exact h.dom i c hi hw hs
    · right; rw [upd_same]; exact hg
  · rcases getElem?_snoc hi with ⟨hl', hi⟩ | ⟨rfl, rfl⟩
    · rw [(hag i hl').2] at hs; rw [(hag i hl').1]; exact h.domw i c hi hw hs
    · right; rw [upd_same]; exact hg
  · rcases getElem?_snoc hi with ⟨hl', hi1⟩ | ⟨e1, e2⟩ <;> rcases getElem?_snoc hj with ⟨hl'', hj1⟩ | ⟨e3, e4⟩
    · rw [(hag i hl').1, (hag j hl'').1] at he
      rw [(hag i hl').2] at hsi
      rw [(hag j hl'').2] at hsj
      exact h.inj i j c d hi1 hj1 hc hd hx hsi hsj he
    · subst e3
      rw [(hag i hl').1, upd_same] at he
      rw [(hag i hl').2] at hsi
      rcases hm i c hi1 he with h1 | h1 | h1
      · rw [not_isMap hc] at h1; cases h1
      · exact absurd h1 hsi
      · rw [hc] at h1; cases h1
    · subst e1
      rw [(hag j hl'').1, upd_same] at he
      rw [(hag j hl'').2] at hsj
      rcases hm j d hj1 he.symm with h1 | h1 | h1
      · rw [not_isMap hd] at h1; cases h1
      · exact absurd h1 hsj
      · rw [hd] at h1; cases h1
    · omega
theorem Below.fr' {w w' : World} (h : RowKit.Below w.heap.size w w') : Fr [] w w' := ⟨h.os, h.tape, h.output, h.size, fun k hk _ => h.block k hk⟩
theorem nodup_le {α : Type} : ∀ (m l : List α), l.Nodup → (∀ x ∈ l, x ∈ m) → l.length ≤ m.length
  | [], l, _, h => by
    cases l with
    | nil => exact Nat.le_refl _
    | cons a l => exact absurd (h a (by simp)) (by simp)
  | a :: m, l, hn, h => by
    rcases Classical.em (a ∈ l) with ha | ha
    · obtain ⟨s, t, rfl⟩ := List.append_of_mem ha
      obtain ⟨n1, n2, n3⟩ := List.nodup_append.1 hn
      obtain ⟨n4, n5⟩ := List.nodup_cons.1 n2
      have hst : (s ++ t).Nodup := List.nodup_append.2 ⟨n1, n5, fun x hx y hy => n3 x hx y (List.mem_cons_of_mem _ hy)⟩
      have hna : a ∉ s ++ t := fun hm => by
        rcases List.mem_append.1 hm with h1 | h1
        · exact n3 a h1 a (by simp) rfl
        · exact n4 h1
      have := nodup_le m (s ++ t) hst fun x hx => by
        have h1 := h x (by simp only [List.mem_append, List.mem_cons] at hx ⊢; rcases hx with h | h <;> simp [h])
        rcases List.mem_cons.1 h1 with rfl | h2
        · exact absurd hx hna
        · exact h2
      simp only [List.length_append, List.length_cons] at this ⊢
      omega
    · have := nodup_le m l hn fun x hx => by
        rcases List.mem_cons.1 (h x hx) with rfl | h2
        · exact absurd hx ha
        · exact h2
      simp only [List.length_cons]
      omega
/-- Some clients, none twice; a bound of rounds. -/
def clientsS : Spec := .m fun args blks K => match args with
  | [.ptr 0 0] => ∃ (R : Nat → RT) (X : Nat → Nat) (N : Int), blks = poolT R X N ∧ (∀ q, q < 16 → (R q).n ≤ 4) ∧
      (∀ (l : List Int) (m : Nat), l.Nodup → (∀ x ∈ l, 0 ≤ x ∧ x < 16) → l.length ≤ 1000 → m ≤ 1000 → K (.tup [.slc 19 0 l.length l.length 1, .v (.int .i64 (m : Nat))]) (poolT R X N ++ [.ints true .i64 l]) [])
  | _ => False
theorem clientsS_ok : SpecOK Tryz.prog 30 clientsS := by
  refine ⟨enters_of Tryz.func30 rfl rfl, fun args blks K h => ?_⟩
  dsimp only at h
  split at h
  case h_2 => exact h.elim
  obtain ⟨R, X, N, rfl, hR4, hK⟩ := h
  intro B ρ σ az w hr hT
  simp only [RelL, Rel] at hr
  obtain ⟨u, r, haz, ⟨hu0, hu⟩, hr'⟩ := hr
  subst hr'
  have haz' : az = #[u] := by apply Array.ext'; simpa using haz
  subst haz' hu
  obtain ⟨pre, hp, hl⟩ : ∃ pre, Pre (poolT R X N).length ρ σ (.cells true [.mp 1, .mp 2, .v (.int .i64 N)]) pre ∧ Lies w (ρ 0) (σ 0) pre := by
    rcases hT.lies 0 (.cells true [.mp 1, .mp 2, .v (.int .i64 N)]) rfl rfl with ⟨_, h0⟩ | h
    · simp [Blk.len] at h0
    · exact h
  simp only [Pre, RelL, Rel] at hp
  obtain ⟨v0, p1, rfl, ⟨_, rfl⟩, v1, p2, rfl, ⟨_, rfl⟩, v2, p3, rfl, _, rfl⟩ := hp
  have hcell : w.cell? ⟨ρ 0, (σ 0).2 + 0, none⟩ = some (.map (some (ρ 1))) := by
    have := hl.cell (o := 0) (x := .map (some (ρ 1))) rfl
    simpa using this
  obtain ⟨ob, ho1, es, clock, rfl, h2, h3, h4, h5, h6, h7⟩ := hT.mok.is 1 (.map true false (.c .i64 c16L (hasQ R X)) (gPool R)) rfl rfl
  have hund : (Tryz.prog).underlying 3 = some (.int .i64) := Tryz.underlying3
  have hkey : ∀ e ∈ es.toList, ∃ x : Int, e.key = .int .i64 x ∧ 0 ≤ x ∧ x < 16 := fun e he => by
    obtain ⟨x, hx, _, e1⟩ := (h2 e.key).1 (List.mem_map_of_mem he)
    have := mem16 hx
    exact ⟨x, e1, this.1, this.2⟩
  have hsz : es.size ≤ 16 := by
    have := nodup_le (c16L.map (Value.int .i64)) (es.toList.map (·.key)) h3 fun v hv => by
      obtain ⟨x, hx, _, rfl⟩ := (h2 v).1 hv
      exact List.mem_map_of_mem hx
    simpa [c16L] using this
  have hrd : ∀ e ∈ es.toList, ∃ x : Int, (0 ≤ x ∧ x < 16) ∧ WideElems.rd Tryz.prog 3 Cli.lenR e = some (.int .i64 x, .lit (.bool true)) := fun e he => by
    obtain ⟨x, hx, hx0, hx1⟩ := hkey e he
    refine ⟨x, ⟨hx0, hx1⟩, WideElems.rd_mk (kl := .int .i64 x) (yv := (.lit (.bool true), [])) (key := e.key) (val := e.val) (born := e.born) ?_ ?_⟩
    · rw [hx]
      have hwf : (Lit.int .i64 x).wf = true := by simp [Lit.wf, IntKind.min, IntKind.max, IntKind.bits, IntKind.signed]; omega
      simp [keyOf, hund, mapKey, hwf]
    · have hv := h4 e he
      rw [hx] at hv
      have hn := hR4 x.toNat (by omega)
      simp only [gPool, Rel] at hv
      obtain ⟨_, _, hv⟩ := hv
      rcases hv with ⟨hv, _⟩ | ⟨o, c, hv, _⟩
      · rw [hv]; rfl
      · rw [hv]
        simp only [Cli.lenR, decide_eq_true (show (R x.toNat).n ≤ 1000 by omega)]
  have hfit : WideElems.Fit Tryz.prog 3 Cli.lenR es clock := by
    refine ⟨by unfold maxLen; omega, ⟨h6, h5.imp (fun h => Nat.ne_of_lt h), h3⟩, fun e he => ?_⟩
    obtain ⟨x, _, h⟩ := hrd e he
    exact ⟨_, h⟩
  have hown : w.ownsMap Tryz.prog 3 Cli.lenR (ρ 1) es.size _ := ⟨es, clock, ho1, hfit, Nat.le_refl _, rfl⟩
  have hsd := hown.size_le
  refine (Cli.clients_run (ρ 0) ((σ 0).2 + 0) (ρ 1) es.size _ w hcell hown (by omega)).mono ?_
  rintro e w' ⟨v, ss, m, rfl, ⟨hm0, hm1⟩, hssl, hnd, hmem, hrow, hbel⟩
  obtain ⟨m, rfl⟩ := Int.eq_ofNat_of_zero_le hm0
  have hT' := hT.still (Below.fr' hbel)
  have hsl : ss.length ≤ 1000 := by omega
  have hlm : ∀ x ∈ ss, 0 ≤ x ∧ x < 16 := fun x hx => by
    have h1 := hmem x hx
    obtain ⟨p, hp, hpk⟩ := List.any_eq_true.1 h1
    have h2 := mem_sorted.1 hp
    obtain ⟨e, he, rfl⟩ := List.mem_map.1 h2
    obtain ⟨y, hy, h3⟩ := hrd e he
    rw [WideElems.rg_of h3] at hpk
    have : y = x := by simpa [Lit.sameKey] using hpk
    omega
  have hold : ∀ i q, (poolT R X N)[i]? = some q → w.heap.size ≤ ρ i → q.isMap = true ∨ (σ i).1 = 0 ∨ q.isDead = true := fun i q hi he => by
    by_cases hq : q.isDead = true
    · exact .inr (.inr hq)
    · by_cases hs : (σ i).1 = 0
      · exact .inr (.inl hs)
      · have := hT.lt hi (by simpa using hq) hs
        omega
  have hlen : (poolT R X N).length = 19 := rfl
  have hKK := hK ss m hnd hlm hsl (by omega)
  rcases hrow.2 with ⟨rfl, hz⟩ | ⟨gb, cap, cur, rfl, hbase, hgb, r1, r2, r3, r4⟩
  · have : ss = [] := List.eq_nil_of_length_eq_zero (by omega)
    subst this
    have hT2 := TOK.addB hT' (g := w'.heap.size) (z := (0, 0)) (b := .ints true .i64 []) (pre := []) hT'.fr.size (fun i q hi he => hold i q hi (by have := hbel.size; omega)) rfl (.inl ⟨rfl, rfl⟩)
    refine ⟨.tup [.slc 19 0 0 0 1, .v (.int .i64 (m : Nat))], _, _, [], _, _, rfl, ?_, ?_, ?_, hT2, hKK⟩
    · simp [Rel, RelL, hlen]
    · simp
    · intro i hi _
      exact ⟨upd_ne _ _ (by omega), upd_ne _ _ (by omega)⟩
  · have hpre : Pre (poolT R X N).length ρ σ (.ints true .i64 ss) (ss.map (Value.int .i64)) := rfl
    have hlies : Lies w' gb (cap, 0) (ss.map (Value.int .i64)) := by
      refine ⟨cur, 3, (0, 0), [], cur.toList.drop ss.length, hgb, by simp; omega, ?_, ?_, rfl, by simp; omega⟩
      · intro o ho
        simp
      · simp only [Nat.mul_one] at r4
        rw [List.nil_append, ← r4, List.take_append_drop]
    have hT2 := TOK.addB hT' (g := gb) (z := (cap, 0)) (b := .ints true .i64 ss) (by have := hT.fr.size; omega) (fun i q hi he => hold i q hi (by omega)) rfl (.inr ⟨hpre, hlies⟩)
    · refine ⟨.tup [.slc 19 0 ss.length ss.length 1, .v (.int .i64 (m : Nat))], _, _, [], _, _, rfl, ?_, ?_, ?_, hT2, hKK⟩
      · refine ⟨_, rfl, _, _, rfl, ?_, _, _, rfl, rfl, rfl⟩
        simp only [Rel, List.length_append, List.length_cons, List.length_nil, hlen]
        rw [show upd ρ 19 gb 19 = gb from upd_same _ _ _, show upd σ 19 (cap, 0) 19 = (cap, 0) from upd_same _ _ _]
        exact ⟨by omega, Nat.le_refl _, .inr ⟨0, cap, rfl, by omega, .inl rfl, by omega⟩⟩
      · simp
      · intro i hi _
        exact ⟨upd_ne _ _ (by omega), upd_ne _ _ (by omega)⟩

end Go.Proofs.YtmnenigmkfnciaaGreatDoor.Sx
/- The pool as a call sees it: its memory told in other words; Put and clients. No condition. -/
namespace Go.Proofs.YtmnenigmkfnciaaGreatDoor.Sx
open Go Go.Proofs
set_option maxRecDepth 100000
set_option linter.unusedSimpArgs false
set_option linter.unusedVariables false

theorem FnOK.pre {P : Program} {f : FuncId} {args : List SV} {tbl tbl' : List Blk} {K : SV → List Blk → List Nat → Prop} (hle : tblLe tbl tbl') (hlt : (tblLt tbl'.length tbl' && Nat.beq tbl.length tbl'.length) = true) (h : FnOK P f args tbl' K) : FnOK P f args tbl K := by
  intro B ρ σ us w hr hT
  rw [Bool.and_eq_true] at hlt
  have hl := Nat.eq_of_beq_eq_true hlt.2
  have hT' := hT.le hle hlt.1
  have hr' : RelL tbl'.length ρ (fun i => if i < tbl.length then σ i else (0, 0)) args us.toList := RelL.mono (by omega) args _ (fun i hi _ => ⟨rfl, by simp [hi]⟩) hr
  refine (h B ρ _ us w hr' hT').mono ?_
  rintro e w' ⟨s, v, t, m, ρ', σ', h1, h2, h3, h4, h5, h6⟩
  refine ⟨s, v, t, m, ρ', σ', h1, h2, by omega, fun i hi hm => ?_, h5, h6⟩
  obtain ⟨e1, e2⟩ := h4 i (by omega) hm
  exact ⟨e1, by rw [e2]; simp [hi]⟩
def pMv : List Nat := [3, 4, 5, 6, 7, 8, 9, 10, 11, 12, 13, 14, 15, 16, 17, 18]
def inPool (blks : List Blk) (R : Nat → RT) (X : Nat → Nat) (N : Int) : Prop := tblLe blks (poolT R X N) ∧ Nat.beq blks.length 19 = true
theorem poolT_lt (R : Nat → RT) (X : Nat → Nat) (N : Int) : tblLt (poolT R X N).length (poolT R X N) = true := by kernel_rfl
def poolK (o : Nat) (ks kx : KS) (h k : Value → SV) (R : Nat → RT) (N : Int) : List Blk := [.cells true [.mp (o + 1), .mp (o + 2), .v (.int .i64 N)], .map true false ks h, .map true true kx k,
  .tab true (R 0).n (R 0).cols, .tab true (R 1).n (R 1).cols, .tab true (R 2).n (R 2).cols, .tab true (R 3).n (R 3).cols, .tab true (R 4).n (R 4).cols, .tab true (R 5).n (R 5).cols, .tab true (R 6).n (R 6).cols, .tab true (R 7).n (R 7).cols, .tab true (R 8).n (R 8).cols, .tab true (R 9).n (R 9).cols, .tab true (R 10).n (R 10).cols, .tab true (R 11).n (R 11).cols, .tab true (R 12).n (R 12).cols, .tab true (R 13).n (R 13).cols, .tab true (R 14).n (R 14).cols, .tab true (R 15).n (R 15).cols]
def gPoolO (o : Nat) (R : Nat → RT) : Value → SV := fun v => match v with
  | .int .i64 c => .slc (o + 3 + c.toNat) 0 (R c.toNat).n (R c.toNat).n 6
  | _ => .unk
/-- The pool's memory, from block o on. -/
def poolO (o : Nat) (R : Nat → RT) (X : Nat → Nat) (N : Int) : List Blk := poolK o (.c .i64 c16L (hasQ R X)) (.c .i64 c16L (hasX X)) (gPoolO o R) (gNext X) R N
/-- One state told as another. -/
theorem stL_of {st st' : St} (hb : ((Nat.beq st.nt st'.nt && Nat.beq st.n0 st'.n0) && (Nat.ble st'.n0 st'.tbl.length && (subB st.mv st'.mv && (envLt st'.tbl.length st'.env && tblLt st'.tbl.length st'.tbl)))) = true)
    (he : ∀ K : Prop, K → envLeK st.env st'.env K) (ht : tblLeK st.tbl st'.tbl True) : stL st st' := by
  rw [Bool.and_eq_true, Bool.and_eq_true, Bool.and_eq_true, Bool.and_eq_true] at hb
  obtain ⟨⟨h1, h2⟩, h3, h4, h5⟩ := hb
  unfold stL stLe
  simp only [h1, h2, h3, h4, h5]
  exact he _ ht
theorem tblLeK_app : ∀ (l : List Blk) (m m' : List Blk) (K : Prop), okST l → tblLeK m m' K → tblLeK (l ++ m) (l ++ m') K
  | [], _, _, _, _, h => h
  | b :: r, m, m', K, hl, h => by
    simp only [List.cons_append, tblLeK]
    exact blkLeK_self b _ hl.1 (tblLeK_app r m m' K hl.2 h)
theorem cl16 {Q : Int → Prop} (h : Q 0 ∧ Q 1 ∧ Q 2 ∧ Q 3 ∧ Q 4 ∧ Q 5 ∧ Q 6 ∧ Q 7 ∧ Q 8 ∧ Q 9 ∧ Q 10 ∧ Q 11 ∧ Q 12 ∧ Q 13 ∧ Q 14 ∧ Q 15) : ∀ y ∈ c16L, Q y := by
  intro y hy
  simp only [c16L, List.mem_cons, List.not_mem_nil, or_false] at hy
  rcases hy with rfl | rfl | rfl | rfl | rfl | rfl | rfl | rfl | rfl | rfl | rfl | rfl | rfl | rfl | rfl | rfl <;> simp only [h]
theorem slc_le (i n : Nat) : SV.le (.slc i 0 n n 6) (.slc i 0 n n 6) := ⟨rfl, rfl, rfl, Nat.le_refl _, Nat.le_refl _, rfl⟩
theorem next_le' (k : Value → SV) (X : Nat → Nat) (y : Value) (hk : ∀ y ∈ c16L, k (.int .i64 y) = gNext X (.int .i64 y)) (hy : y ∈ (KS.c .i64 c16L (hasX X)).vals) : (true = true → plainS (gNext X y) = true) ∧ SV.le (k y) (gNext X y) := by
  obtain ⟨z, hz, rfl⟩ := List.mem_map.1 hy
  rw [hk z hz]
  exact ⟨fun _ => rfl, by simp [gNext, SV.le, veq]⟩
theorem tabs_ok (R : Nat → RT) : okST [.tab true (R 0).n (R 0).cols, .tab true (R 1).n (R 1).cols, .tab true (R 2).n (R 2).cols, .tab true (R 3).n (R 3).cols, .tab true (R 4).n (R 4).cols, .tab true (R 5).n (R 5).cols, .tab true (R 6).n (R 6).cols, .tab true (R 7).n (R 7).cols, .tab true (R 8).n (R 8).cols, .tab true (R 9).n (R 9).cols, .tab true (R 10).n (R 10).cols, .tab true (R 11).n (R 11).cols, .tab true (R 12).n (R 12).cols, .tab true (R 13).n (R 13).cols, .tab true (R 14).n (R 14).cols, .tab true (R 15).n (R 15).cols] :=
  ⟨trivial, trivial, trivial, trivial, trivial, trivial, trivial, trivial, trivial, trivial, trivial, trivial, trivial, trivial, trivial, trivial, trivial⟩
theorem ksEqK_of {a b : KS} {K : Prop} (h : ksEq a b) (hK : K) : ksEqK a b K := by
  cases a <;> cases b <;> simp only [ksEq] at h <;> simp only [ksEqK]
  · obtain ⟨rfl, rfl⟩ := h
    simp only [decide_true]
    exact ob_mk (by simp) hK
  · obtain ⟨rfl, h1, h2⟩ := h
    simp only [decide_true]
    exact ⟨h1, h2, hK⟩
  · exact ⟨h, hK⟩
  · obtain ⟨rfl, rfl, h1⟩ := h
    simp only [decide_true]
    exact ob_mk (by simp) ⟨h1, hK⟩
theorem poolK_le {o : Nat} {ks kx : KS} {h k : Value → SV} {R : Nat → RT} {X : Nat → Nat} {N : Int} (hks : ksEq ks (.c .i64 c16L (hasQ R X))) (hkx : ksEq kx (.c .i64 c16L (hasX X))) (hh : ∀ y ∈ c16L, SV.le (h (.int .i64 y)) (gPoolO o R (.int .i64 y))) (hk : ∀ y ∈ c16L, k (.int .i64 y) = gNext X (.int .i64 y))
    {m m' : List Blk} {K : Prop} (hm : tblLeK m m' K) : tblLeK (poolK o ks kx h k R N ++ m) (poolO o R X N ++ m') K := by
  refine blkLeK_self (.cells true [.mp (o + 1), .mp (o + 2), .v (.int .i64 N)]) _ ⟨trivial, trivial, trivial, trivial⟩ ?_
  show blkLeK (.map true false ks h) (.map true false (.c .i64 c16L (hasQ R X)) (gPoolO o R)) (blkLeK (.map true true kx k) (.map true true (.c .i64 c16L (hasX X)) (gNext X)) _)
  simp only [blkLeK]
  refine ob_mk rfl (ksEqK_of hks ⟨fun y hy => ?_, ob_mk rfl (ksEqK_of hkx ⟨fun y hy => ?_, tblLeK_app _ m m' K (tabs_ok R) hm⟩)⟩)
  · obtain ⟨z, hz, rfl⟩ := List.mem_map.1 hy
    exact hh z hz
  · obtain ⟨h1, h2⟩ := next_le' k X y hk hy
    exact ⟨h1 rfl, h2⟩
theorem poolO_ok (o : Nat) (R : Nat → RT) (X : Nat → Nat) (N : Int) : okST (poolO o R X N) := by
  refine ⟨⟨trivial, trivial, trivial, trivial⟩, fun y hy => ⟨fun h => Bool.noConfusion h, ?_⟩, fun y hy => ⟨fun _ => ?_, ?_⟩, tabs_ok R⟩
  · obtain ⟨z, hz, rfl⟩ := List.mem_map.1 hy
    exact Nat.le_refl _
  · obtain ⟨z, hz, rfl⟩ := List.mem_map.1 hy
    rfl
  · obtain ⟨z, hz, rfl⟩ := List.mem_map.1 hy
    trivial
/-- What a call sees of the pool. -/
theorem inPool_of {ks kx : KS} {h k : Value → SV} {R : Nat → RT} {X : Nat → Nat} {N : Int} (hks : ksEq ks (.c .i64 c16L (hasQ R X))) (hkx : ksEq kx (.c .i64 c16L (hasX X))) (hh : ∀ y ∈ c16L, SV.le (h (.int .i64 y)) (gPool R (.int .i64 y))) (hk : ∀ y ∈ c16L, k (.int .i64 y) = gNext X (.int .i64 y)) :
    inPool (poolK 0 ks kx h k R N) R X N := by
  rw [inPool]
  refine ⟨⟨⟨id, by simp [preLe, SV.le, veq]⟩, ⟨id, hks, fun y hy => ⟨fun h => Bool.noConfusion h, ?_⟩⟩, ⟨id, hkx, fun y hy => next_le' k X y hk hy⟩, tab_le _ _, tab_le _ _, tab_le _ _, tab_le _ _, tab_le _ _, tab_le _ _, tab_le _ _, tab_le _ _, tab_le _ _, tab_le _ _, tab_le _ _, tab_le _ _, tab_le _ _, tab_le _ _, tab_le _ _, tab_le _ _, trivial⟩, rfl⟩
  obtain ⟨z, hz, rfl⟩ := List.mem_map.1 hy
  exact hh z hz
def clientsL : Spec := .m fun args blks K => match args with
  | [.ptr 0 0] => ∃ (R : Nat → RT) (X : Nat → Nat) (N : Int), inPool blks R X N ∧ okP R X ∧
      (∀ (l : List Int) (m : Nat), l.Nodup → (∀ x ∈ l, 0 ≤ x ∧ x < 16) → l.length ≤ 1000 → m ≤ 1000 → K (.tup [.slc 19 0 l.length l.length 1, .v (.int .i64 (m : Nat))]) (poolT R X N ++ [.ints true .i64 l]) [])
  | _ => False
theorem clientsL_ok : SpecOK Tryz.prog 30 clientsL := by
  refine ⟨clientsS_ok.1, fun args blks K h => ?_⟩
  dsimp only at h
  split at h
  case h_2 => exact h.elim
  obtain ⟨R, X, N, hin, hP, hK⟩ := h
  rw [inPool] at hin
  obtain ⟨hle, hlen⟩ := hin
  have hlen := Nat.eq_of_beq_eq_true hlen
  refine FnOK.pre hle (by rw [Bool.and_eq_true]; exact ⟨poolT_lt R X _, by rw [hlen]; rfl⟩) ?_
  exact clientsS_ok.2 _ _ _ ⟨R, X, N, rfl, fun q hq => (hP q hq).2.1, hK⟩
def putL : Spec := .m fun args blks K => match args with
  | [.ptr 0 0, .agg [.v (.int .i64 c), .v (.int .i64 s), .v (.int .i64 k), .v (.int .i64 e), .v (.string n), .v (.string b)]] => ∃ (R : Nat → RT) (X : Nat → Nat) (N : Int), inPool blks R X N ∧ okP R X ∧
      ob ((decide (-1000000 ≤ N) && decide (N ≤ 1000000)) && decide (n.size + b.size ≤ 500)) ((∀ z : Int, z ≠ 0 → K (.v (.int .i64 z)) (poolT R X N) pMv) ∧ (((X c.toNat : Nat) : Int) ≤ s → b.size ≤ 400 ∧ ∀ R' : Nat → RT, okP R' X → K (.v (.int .i64 0)) (poolT R' X (N + 1)) pMv))
  | _ => False
theorem putL_ok : SpecOK Tryz.prog 7 putL := by
  refine ⟨putS_ok.1, fun args blks K h => ?_⟩
  dsimp only at h
  split at h
  case h_2 => exact h.elim
  rename_i c s k e n b
  obtain ⟨R, X, N, hin, hP, h⟩ := h
  rw [inPool] at hin
  obtain ⟨hle, hlen⟩ := hin
  have hlen := Nat.eq_of_beq_eq_true hlen
  rw [ob_iff] at h
  simp only [Bool.and_eq_true, decide_eq_true_eq] at h
  obtain ⟨⟨⟨hN0, hN1⟩, hs⟩, hK1, hK2⟩ := h
  have hmv : ∀ {d : Nat}, d < 16 → subB [3 + d] pMv = true := fun {d} hd => by
    match d, hd with
    | 0, _ | 1, _ | 2, _ | 3, _ | 4, _ | 5, _ | 6, _ | 7, _ | 8, _ | 9, _ | 10, _ | 11, _ | 12, _ | 13, _ | 14, _ | 15, _ => rfl
    | n + 16, h => exact absurd h (by omega)
  refine FnOK.pre hle (by rw [Bool.and_eq_true]; exact ⟨poolT_lt R X _, by rw [hlen]; rfl⟩) (FnOK.mvs ?_)
  refine putS_ok.2 _ _ _ ⟨R, X, N, rfl, ⟨fun q hq => (hP q hq).1, hN0, hN1⟩, ob_mk (decide_eq_true (by omega)) ⟨fun _ => ⟨pMv, rfl, hK1 1 (by decide)⟩, fun hok => ?_⟩⟩
  obtain ⟨⟨hc0, hc1⟩, ⟨hs0, hs1⟩, hcmd⟩ := reqOK_parts hok
  obtain ⟨d, rfl⟩ : ∃ d : Nat, c = (d : Int) := ⟨c.toNat, by omega⟩
  have hd : d < 16 := by omega
  rw [show ((d : Int)).toNat = d from by omega] at hK2 ⊢
  refine ⟨fun _ => ⟨pMv, rfl, hK1 7 (by decide)⟩, fun _ _ => ⟨pMv, rfl, hK1 8 (by decide)⟩, fun hf hX i hp => ⟨pMv, hmv hd, ?_⟩⟩
  obtain ⟨hb, hK2⟩ := hK2 hX
  have hcs := cmdOK_size hcmd
  exact hK2 _ (okP_ins hP hd (by omega) hX hp hok ⟨hs0, hs1⟩ (by omega))

end Go.Proofs.YtmnenigmkfnciaaGreatDoor.Sx
/- Pieces of code: on, out of a block, the function's end. No condition. -/
namespace Go.Proofs.YtmnenigmkfnciaaGreatDoor.Sx
open Go Go.Proofs
set_option maxRecDepth 100000
set_option linter.unusedSimpArgs false
set_option linter.unusedVariables false

/-- On; out of a block; the function's end. -/
def pr (N X : St → Prop) (id : Nat) (T : St → Prop) : Ex → St → Prop := fun e st => match e with
  | .norm => N st
  | .exit i => Nat.beq i id = true ∧ X st
  | .ret => T st
section
variable {P : Program} {S : Specs} {c : Code} {st : St} {N X T : St → Prop} {id : Nat}
theorem TrR.leaf {I : Nat → St → LK} (hm : P.follows .mixedOrders = true) (hS : SpecsOK P S) {F : Prop} (hF : vc P S I c st (pr N X id T) = F) (h : F) : Tr P c st (pr N X id T) := Tr.of_vc (I := I) hm hS (hF ▸ h)
theorem TrR.fin {I : Nat → St → LK} (hm : P.follows .mixedOrders = true) (hS : SpecsOK P S) {Q : Ex → St → Prop} {F : Prop} (hF : vc P S I c st Q = F) (h : F) : Tr P c st Q := Tr.of_vc (I := I) hm hS (hF ▸ h)
theorem TrR.norm {N' : St → Prop} (h : Tr P c st (pr N X id T)) (hN : ∀ st, N st → N' st) : Tr P c st (pr N' X id T) :=
  h.mono fun e st hq => by cases e <;> first | exact hN _ hq | exact hq
theorem TrR.nx {N1 : St → Prop} (hc : isSq c = true) (h1 : Tr P (sL c) st (pr N1 X id T)) (h2 : ∀ st', N1 st' → Tr P (sR c) st' (pr N X id T)) : Tr P c st (pr N X id T) :=
  Tr.sq (N := N1) hc (h1.mono fun e st hq => by cases e <;> exact hq) h2
/-- At the function's own level: no exit. -/
theorem TrR.top {Q : Ex → St → Prop} {N1 : St → Prop} (hc : isSq c = true) (h1 : Tr P (sL c) st (pr N1 nope 0 (Q .ret))) (h2 : ∀ st', N1 st' → Tr P (sR c) st' Q) : Tr P c st Q :=
  Tr.sq (N := N1) hc (h1.mono fun e st hq => by
    cases e with
    | norm => exact hq
    | exit j => exact hq.2.elim
    | ret => exact hq) h2
theorem TrR.blk {i : Nat} (hc : isBk i c = true) (h : Tr P (bB c) st (pr N nope 0 T)) : Tr P c st (pr N X id T) :=
  Tr.bk hc (h.mono fun e st hq => by
    cases e with
    | norm => exact hq
    | exit j => exact hq.2.elim
    | ret => exact hq)
/-- A block that is left by its own exit, too. -/
theorem TrR.blkX {i : Nat} {Z : St → Prop} (hc : isBk i c = true) (h : Tr P (bB c) st (pr N Z i T)) (hZ : ∀ st, Z st → N st) : Tr P c st (pr N X id T) :=
  Tr.bk hc (h.mono fun e st hq => by
    cases e with
    | norm => exact hq
    | exit j =>
      have hj := Nat.eq_of_beq_eq_true hq.1
      subst hj
      show inB j (pr N X id T) (.exit j) st
      unfold inB
      simp only [Nat.beq_refl]
      exact hZ _ hq.2
    | ret => exact hq)
theorem TrR.loop {Y : Type} {i : Nat} {Z : St → Prop} (n : Nat) (q : Nat → Y → Prop) (sh : Nat → Y → St) (x0 : Y) (hc : isLp i c = true) (h0 : q 0 x0) (hle : stL st (sh 0 x0))
    (hr : ∀ k, k ≤ n → ∀ x, q k x → Tr P (bB c) (sh k x) (pr (fun st' => k < n ∧ ∃ x', q (k + 1) x' ∧ stL st' (sh (k + 1) x')) Z i T)) (hZ : ∀ st, Z st → N st) : Tr P c st (pr N X id T) :=
  Tr.lp n q sh x0 hc h0 hle fun k hk x hx => (hr k hk x hx).mono fun e st hq => by
    cases e with
    | norm => exact hq
    | exit j =>
      have hj := Nat.eq_of_beq_eq_true hq.1
      subst hj
      show inB j (pr N X id T) (.exit j) st
      unfold inB
      simp only [Nat.beq_refl]
      exact hZ _ hq.2
    | ret => exact hq
end
def bodyOf (f : Func) : Code := match f.body with
  | some c => c
  | none => .skip
def noRet : St → Prop := fun _ => False
theorem TrR.both {P : Program} {c : Code} {st : St} {N X N' X' T : St → Prop} {id : Nat} (h : Tr P c st (pr N X id T)) (hN : ∀ st, N st → N' st) (hX : ∀ st, X st → X' st) : Tr P c st (pr N' X' id T) :=
  h.mono fun e st hq => by
    cases e with
    | norm => exact hN _ hq
    | exit j => exact ⟨hq.1, hX _ hq.2⟩
    | ret => exact hq

end Go.Proofs.YtmnenigmkfnciaaGreatDoor.Sx
