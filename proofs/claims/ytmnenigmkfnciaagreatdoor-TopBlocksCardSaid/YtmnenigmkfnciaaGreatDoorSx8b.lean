/- The order in a region, looked at by bit masks. No condition. -/
import Derived.Test.YtmnenigmkfnciaaGreatDoorSx8
namespace Go.Proofs.YtmnenigmkfnciaaGreatDoor.Sx
open Go
variable {ds : List Deferred}

def bitsOf : List Nat → Nat
  | [] => 0
  | i :: r => 2 ^ i ||| bitsOf r
theorem testBit_bitsOf : ∀ (l : List Nat) (i : Nat), (bitsOf l).testBit i = true ↔ i ∈ l
  | [], i => by simp [bitsOf]
  | j :: r, i => by
    simp only [bitsOf, Nat.testBit_or, Bool.or_eq_true, Nat.testBit_two_pow, decide_eq_true_eq, testBit_bitsOf r i, List.mem_cons]
    constructor
    · rintro (h | h)
      · exact .inl h.symm
      · exact .inr h
    · rintro (h | h)
      · exact .inl h.symm
      · exact .inr h

def edgesOf : List Edge → List Nat
  | [] => []
  | e :: r => match Region.binds .any e with
    | true => e.on :: edgesOf r
    | false => edgesOf r
theorem mem_edgesOf : ∀ {l : List Edge} {i : Nat}, i ∈ edgesOf l ↔ ∃ e ∈ l, Region.binds .any e = true ∧ e.on = i
  | [], i => by simp [edgesOf]
  | e :: r, i => by
    simp only [edgesOf]
    split
    · rename_i h
      simp only [List.mem_cons, mem_edgesOf]
      constructor
      · rintro (rfl | ⟨e', h1, h2, h3⟩)
        · exact ⟨e, .inl rfl, h, rfl⟩
        · exact ⟨e', .inr h1, h2, h3⟩
      · rintro ⟨e', rfl | h1, h2, h3⟩
        · exact .inl h3.symm
        · exact .inr ⟨e', h1, h2, h3⟩
    · rename_i h
      rw [mem_edgesOf]
      constructor
      · rintro ⟨e', h1, h2, h3⟩; exact ⟨e', List.mem_cons_of_mem _ h1, h2, h3⟩
      · rintro ⟨e', h1, h2, h3⟩
        rcases List.mem_cons.1 h1 with rfl | h1
        · rw [h] at h2; cases h2
        · exact ⟨e', h1, h2, h3⟩

/-- Of an operation: what it waits for, what it looks at, what it sets. -/
structure Mk where
  a : Nat
  r : Nat
  d : Nat
def mkOf (ops : List Oper) (o : Oper) : Mk := ⟨bitsOf (edgesOf o.after.toList), bitsOf (o.looksAt ops.toArray), match o.dst with | some d => 2 ^ d | none => 0⟩
def apartM (x y : Mk) : Bool := Nat.beq (Nat.land x.d y.r) 0 && Nat.beq (Nat.land x.d y.d) 0 && Nat.beq (Nat.land y.d x.r) 0
/-- Every one behind waits for it, or is apart. -/
def freeM (k : Nat) (x : Mk) : List Mk → Bool
  | [] => true
  | y :: r => (Nat.testBit y.a k || apartM x y) && freeM k x r
def freeAll : Nat → List Mk → Bool
  | _, [] => true
  | k, x :: r => freeM k x r && freeAll (k + 1) r
/-- Nobody waits for one behind it. -/
def backM : Nat → List Mk → Bool
  | _, [] => true
  | k, x :: r => Nat.blt x.a (2 ^ k) && backM (k + 1) r
/-- From n on: each waits for the one ahead. -/
def chainM (n : Nat) : Nat → List Mk → Bool
  | _, [] => true
  | k, x :: r => (Nat.ble k n || Nat.testBit x.a (k - 1)) && chainM n (k + 1) r
/-- What the first n + 1 wait for, all together. -/
def sinkM : Nat → List Mk → Nat
  | 0, x :: _ => x.a
  | n + 1, x :: r => Nat.lor x.a (sinkM n r)
  | _, [] => 0
def noSel : List Oper → Bool
  | [] => true
  | o :: r => (match o.op with | .select .. => false | _ => true) && noSel r

def fastB (ops : List Oper) (ms : List Mk) : Bool := noSel ops && (backM 0 ms && freeAll 0 ms)
def fastT (ops : List Oper) (ms : List Mk) (n : Nat) : Bool := noSel ops && (Nat.blt n ops.length && (backM 0 ms && (freeAll 0 ms && (chainM n 0 ms && Nat.beq (Nat.land (sinkM n ms) (2 ^ n - 1)) (2 ^ n - 1)))))

section
variable {ops : List Oper}
theorem mk_get {i : Nat} {o : Oper} (h : ops[i]? = some o) : (ops.map (mkOf ops))[i]? = some (mkOf ops o) := by simp [h]
theorem backM_get : ∀ {l : List Mk} {k i : Nat} {m : Mk}, backM k l = true → l[i]? = some m → m.a < 2 ^ (k + i)
  | [], k, i, m, _, h => by simp at h
  | x :: r, k, 0, m, hb, h => by simp only [backM, Bool.and_eq_true] at hb; simp at h; subst h; have := hb.1; rwa [Nat.blt_eq] at this
  | x :: r, k, i + 1, m, hb, h => by
    simp only [backM, Bool.and_eq_true] at hb
    have := backM_get hb.2 (by simpa using h)
    rwa [show k + (i + 1) = k + 1 + i by omega]
theorem freeM_get : ∀ {l : List Mk} {k i : Nat} {x y : Mk}, freeM k x l = true → l[i]? = some y → (Nat.testBit y.a k || apartM x y) = true
  | [], k, i, x, y, _, h => by simp at h
  | z :: r, k, 0, x, y, hb, h => by simp only [freeM, Bool.and_eq_true] at hb; simp at h; subst h; exact hb.1
  | z :: r, k, i + 1, x, y, hb, h => by simp only [freeM, Bool.and_eq_true] at hb; exact freeM_get hb.2 (by simpa using h)
theorem freeAll_get : ∀ {l : List Mk} {k i j : Nat} {x y : Mk}, freeAll k l = true → l[i]? = some x → l[j]? = some y → i < j → (Nat.testBit y.a (k + i) || apartM x y) = true
  | [], k, i, j, x, y, _, h, _, _ => by simp at h
  | z :: r, k, 0, 0, x, y, hb, h, h', hij => by omega
  | z :: r, k, 0, j + 1, x, y, hb, h, h', hij => by
    simp only [freeAll, Bool.and_eq_true] at hb; simp at h; subst h; exact freeM_get hb.1 (by simpa using h')
  | z :: r, k, i + 1, 0, x, y, hb, h, h', hij => by omega
  | z :: r, k, i + 1, j + 1, x, y, hb, h, h', hij => by
    simp only [freeAll, Bool.and_eq_true] at hb
    have := freeAll_get hb.2 (by simpa using h) (by simpa using h') (by omega : i < j)
    rwa [show k + (i + 1) = k + 1 + i by omega]
theorem chainM_get {n : Nat} : ∀ {l : List Mk} {k i : Nat} {x : Mk}, chainM n k l = true → l[i]? = some x → (Nat.ble (k + i) n || Nat.testBit x.a (k + i - 1)) = true
  | [], k, i, x, _, h => by simp at h
  | z :: r, k, 0, x, hb, h => by simp only [chainM, Bool.and_eq_true] at hb; simp at h; subst h; exact hb.1
  | z :: r, k, i + 1, x, hb, h => by
    simp only [chainM, Bool.and_eq_true] at hb
    have := chainM_get hb.2 (by simpa using h)
    rwa [show k + (i + 1) = k + 1 + i by omega]
theorem sinkM_get : ∀ {n : Nat} {l : List Mk} {i : Nat}, (sinkM n l).testBit i = true → ∃ j x, j ≤ n ∧ l[j]? = some x ∧ x.a.testBit i = true
  | 0, [], i, h => by simp [sinkM] at h
  | n + 1, [], i, h => by simp [sinkM] at h
  | 0, x :: r, i, h => ⟨0, x, by omega, rfl, by simpa [sinkM] using h⟩
  | n + 1, x :: r, i, h => by
    have h : (x.a ||| sinkM n r).testBit i = true := by simpa [sinkM] using h
    rw [Nat.testBit_or, Bool.or_eq_true] at h
    rcases h with h | h
    · exact ⟨0, x, by omega, rfl, h⟩
    · obtain ⟨j, y, h1, h2, h3⟩ := sinkM_get h
      exact ⟨j + 1, y, by omega, by simpa using h2, h3⟩
theorem noSel_spec : ∀ {l : List Oper}, noSel l = true → l.all (fun o => match o.op with | .select .. => false | _ => true) = true
  | [], _ => rfl
  | o :: r, h => by
    simp only [noSel, Bool.and_eq_true] at h
    simp only [List.all_cons, Bool.and_eq_true]
    exact ⟨h.1, noSel_spec h.2⟩

theorem land_bit {a b i : Nat} (h : Nat.beq (Nat.land a b) 0 = true) (ha : a.testBit i = true) : b.testBit i = false := by
  have h := Nat.eq_of_beq_eq_true h
  have h1 : (a &&& b).testBit i = false := by
    have : a &&& b = 0 := h
    rw [this]; simp
  rw [Nat.testBit_and, ha, Bool.true_and] at h1
  exact h1

theorem apart_of {x y : Oper} (h : apartM (mkOf ops x) (mkOf ops y) = true) : x.apart ops.toArray y = true := by
  simp only [apartM, mkOf, Bool.and_eq_true] at h
  obtain ⟨⟨h1, h2⟩, h3⟩ := h
  unfold Oper.apart
  have bit : ∀ d : Nat, (2 ^ d).testBit d = true := fun d => by simp
  simp only [Bool.and_eq_true]
  constructor
  · cases hx : x.dst with
    | none => rfl
    | some d =>
      rw [hx] at h1 h2
      simp only at h1 h2
      have e1 : (y.looksAt ops.toArray).contains d = false := by
        have := land_bit h1 (bit d)
        cases hc : (y.looksAt ops.toArray).contains d with
        | false => rfl
        | true =>
          rw [(testBit_bitsOf _ _).2 (List.contains_iff_mem.1 hc)] at this; cases this
      have e2 : (y.dst != some d) = true := by
        cases hy : y.dst with
        | none => rfl
        | some d' =>
          rw [hy] at h2
          have := land_bit h2 (bit d)
          simp only [Nat.testBit_two_pow, decide_eq_false_iff_not] at this
          simpa using this
      simp only [e1, e2]; rfl
  · cases hy : y.dst with
    | none => rfl
    | some d =>
      rw [hy] at h3
      simp only at h3
      have := land_bit h3 (bit d)
      cases hc : (x.looksAt ops.toArray).contains d with
      | false => simp only [hc]; rfl
      | true =>
        rw [(testBit_bitsOf _ _).2 (List.contains_iff_mem.1 hc)] at this; cases this

/-- The first k are listed. -/
def firstK (size : Nat) : Nat → Array Bool
  | 0 => Array.replicate size false
  | k + 1 => (firstK size k).setIfInBounds k true
theorem firstK_size (size : Nat) : ∀ k, (firstK size k).size = size
  | 0 => by simp [firstK]
  | k + 1 => by simp [firstK, firstK_size size k]
theorem firstK_get (size : Nat) : ∀ (k j : Nat), j < size → (firstK size k)[j]? = some (decide (j < k))
  | 0, j, h => by simp [firstK, h]
  | k + 1, j, h => by
    simp only [firstK, Array.getElem?_setIfInBounds, firstK_size]
    by_cases e : k = j
    · subst e; simp [h]
    · rw [if_neg e, firstK_get size k j h]
      congr 1
      simp; omega
theorem firstK_getD {size k j : Nat} (h : j < size) (d : Bool) : (firstK size k).getD j d = decide (j < k) := by
  rw [Array.getD_eq_getD_getElem?, firstK_get size k j h]; rfl

theorem edge_back (hb : backM 0 (ops.map (mkOf ops)) = true) {j : Nat} {o : Oper} (hj : ops[j]? = some o) {e : Edge} (he : e ∈ o.after) (hbi : Region.binds .any e = true) : e.on < j := by
  have h1 := backM_get hb (mk_get hj)
  rw [Nat.zero_add] at h1
  have h2 : (mkOf ops o).a.testBit e.on = true := (testBit_bitsOf _ _).2 (mem_edgesOf.2 ⟨e, by simpa using he, hbi, rfl⟩)
  have h3 := Nat.ge_two_pow_of_testBit h2
  exact (Nat.pow_lt_pow_iff_right (by omega : 1 < 2)).1 (Nat.lt_of_le_of_lt h3 h1)
theorem ready_k (hb : backM 0 (ops.map (mkOf ops)) = true) {k : Nat} (hk : k < ops.length) : k ∈ Region.ready .any ops.toArray (firstK ops.length k) := by
  refine mem_ready.2 ⟨by rw [firstK_getD hk]; simp, ops[k], by simp, fun e he hbi => ?_⟩
  have h1 : ops[k]? = some ops[k] := by simp
  have := edge_back hb h1 he hbi
  rw [firstK_getD (by omega)]; simpa using this
theorem ready_ge {k j : Nat} (h : j ∈ Region.ready .any ops.toArray (firstK ops.length k)) : k ≤ j ∧ j < ops.length := by
  obtain ⟨h1, o, h2, _⟩ := mem_ready.1 h
  have hj : j < ops.length := by have := (Array.getElem?_eq_some_iff.1 h2).1; simpa using this
  rw [firstK_getD hj] at h1
  simp at h1
  exact ⟨by omega, hj⟩
theorem waits_bit {i : Nat} {o : Oper} (h : (mkOf ops o).a.testBit i = true) : ∃ e ∈ o.after, Region.binds .any e = true ∧ e.on = i := by
  obtain ⟨e, h1, h2, h3⟩ := mem_edgesOf.1 ((testBit_bitsOf _ _).1 h)
  exact ⟨e, by simpa using h1, h2, h3⟩
theorem free_k (hf : freeAll 0 (ops.map (mkOf ops)) = true) {k : Nat} (hk : k < ops.length) : Region.free .any ops.toArray (firstK ops.length k) k = true := by
  unfold Region.free
  have h0 : ops.toArray[k]? = some ops[k] := by simp [hk]
  rw [h0]
  simp only [List.all_eq_true, List.mem_range]
  intro j hj
  have hj' : j < ops.length := by simpa using hj
  by_cases e1 : j = k
  · simp [e1]
  · rcases Nat.lt_or_ge j k with hlt | hge
    · rw [firstK_getD hj']; simp [hlt]
    · have h1 : ops.toArray[j]? = some ops[j] := by simp [hj']
      rw [h1]
      have hk1 : ops[k]? = some ops[k] := by simp
      have hj1 : ops[j]? = some ops[j] := by simp
      have := freeAll_get hf (mk_get hk1) (mk_get hj1) (by omega)
      rw [Nat.zero_add, Bool.or_eq_true] at this
      simp only [Bool.or_eq_true]
      right
      rcases this with h | h
      · left
        obtain ⟨e, h2, h3, h4⟩ := waits_bit h
        refine Array.any_eq_true'.2 ⟨e, h2, ?_⟩
        simp [h3, h4]
      · right; exact apart_of h

theorem lexFrom_fast (hb : backM 0 (ops.map (mkOf ops)) = true) (hf : freeAll 0 (ops.map (mkOf ops)) = true) : ∀ (fuel k : Nat), k + fuel = ops.length → Region.lexFrom .any ops.toArray fuel k (firstK ops.length k) = true
  | 0, k, h => by
    simp only [Region.lexFrom, List.isEmpty_iff]
    apply List.eq_nil_iff_forall_not_mem.2
    intro j hj
    have := ready_ge hj
    omega
  | fuel + 1, k, h => by
    simp only [Region.lexFrom, Bool.and_eq_true]
    exact ⟨⟨by simpa using ready_k hb (by omega), free_k hf (by omega)⟩, lexFrom_fast hb hf fuel (k + 1) (by omega)⟩

theorem seqB_fast (hb : backM 0 (ops.map (mkOf ops)) = true) {n : Nat} (hc : chainM n 0 (ops.map (mkOf ops)) = true) : ∀ (g k : Nat), n ≤ k → k + g = ops.length → Region.seqB .any ops.toArray g k (firstK ops.length k) = true
  | 0, k, _, h => by
    simp only [Region.seqB, List.isEmpty_iff]
    apply List.eq_nil_iff_forall_not_mem.2
    intro j hj
    have := ready_ge hj
    omega
  | g + 1, k, hn, h => by
    simp only [Region.seqB, Bool.and_eq_true, decide_eq_true_eq]
    refine ⟨?_, seqB_fast hb hc g (k + 1) (by omega) (by omega)⟩
    have hmem := ready_k hb (k := k) (by omega)
    have hone : ∀ j ∈ Region.ready .any ops.toArray (firstK ops.length k), j = k := fun j hj => by
      have h1 := ready_ge hj
      by_cases e : j = k
      · exact e
      · exfalso
        obtain ⟨_, o, h2, h3⟩ := mem_ready.1 hj
        have h2' : ops[j]? = some o := by simpa using h2
        have := chainM_get hc (mk_get h2')
        rw [Nat.zero_add, Bool.or_eq_true] at this
        rcases this with h4 | h4
        · have := Nat.le_of_ble_eq_true h4; omega
        · obtain ⟨ed, h5, h6, h7⟩ := waits_bit h4
          have := h3 ed h5 h6
          rw [h7, firstK_getD (by omega)] at this
          simp at this; omega
    have hnd : (Region.ready .any ops.toArray (firstK ops.length k)).Nodup := by
      unfold Region.ready
      exact List.Pairwise.filter _ List.nodup_range
    generalize Region.ready .any ops.toArray (firstK ops.length k) = l at *
    match l, hmem, hone, hnd with
    | [x], _, ho, _ => rw [ho x (by simp)]
    | x :: y :: r, _, ho, hd =>
      have e1 := ho x (by simp)
      have e2 := ho y (by simp)
      subst e1
      rw [e2] at hd
      simp at hd

theorem lexHead_fast (hb : backM 0 (ops.map (mkOf ops)) = true) (hf : freeAll 0 (ops.map (mkOf ops)) = true) {n : Nat} (hc : chainM n 0 (ops.map (mkOf ops)) = true) (g : Nat) (hg : n + g = ops.length) : ∀ (f k : Nat), k + f = n → Region.lexHead .any ops.toArray g f k (firstK ops.length k) = true
  | 0, k, h => by
    have : k = n := by omega
    subst this
    simp only [Region.lexHead]
    exact seqB_fast hb hc g k (Nat.le_refl _) hg
  | f + 1, k, h => by
    simp only [Region.lexHead, Bool.and_eq_true]
    exact ⟨⟨by simpa using ready_k hb (by omega), free_k hf (by omega)⟩, lexHead_fast hb hf hc g hg f (k + 1) (by omega)⟩

theorem noSelect_fast (h : noSel ops = true) : Region.noSelect ops.toArray = true := by
  unfold Region.noSelect
  have h1 := noSel_spec h
  simp only [List.all_eq_true] at h1
  simp only [List.all_toArray, List.all_eq_true]
  intro o ho
  have h2 := h1 o ho
  generalize o.op = p at h2 ⊢
  cases p <;> first | rfl | cases h2

theorem lexB_of_fast (h : fastB ops (ops.map (mkOf ops)) = true) : Region.lexB .any ops.toArray = true := by
  simp only [fastB, Bool.and_eq_true] at h
  simp only [Region.lexB, Bool.and_eq_true]
  exact ⟨noSelect_fast h.1, by simpa [firstK] using lexFrom_fast h.2.1 h.2.2 ops.length 0 (by omega)⟩

theorem lexTailB_of_fast {n : Nat} (h : fastT ops (ops.map (mkOf ops)) n = true) : Region.lexTailB .any ops.toArray n = true := by
  simp only [fastT, Bool.and_eq_true] at h
  obtain ⟨h1, h2, h3, h4, h5, h6⟩ := h
  have h2 : n < ops.length := by rwa [Nat.blt_eq] at h2
  have h6 := Nat.eq_of_beq_eq_true h6
  simp only [Region.lexTailB, Bool.and_eq_true, decide_eq_true_eq]
  refine ⟨⟨⟨⟨noSelect_fast h1, by simpa using h2⟩, ?_⟩, ?_⟩, ?_⟩
  · unfold Region.sinkB
    simp only [List.all_eq_true, List.any_eq_true, List.mem_range, Bool.and_eq_true, decide_eq_true_eq]
    intro i hi
    have hbit : (sinkM n (ops.map (mkOf ops)) &&& (2 ^ n - 1)).testBit i = true := by
      have e : sinkM n (ops.map (mkOf ops)) &&& (2 ^ n - 1) = 2 ^ n - 1 := h6
      rw [e, Nat.testBit_two_pow_sub_one]; simpa using hi
    rw [Nat.testBit_and, Bool.and_eq_true] at hbit
    obtain ⟨j, x, hj, hx, hxb⟩ := sinkM_get hbit.1
    have hjl : j < ops.length := by have := (List.getElem?_eq_some_iff.1 hx).1; simpa using this
    have hoj : ops[j]? = some ops[j] := by simp
    have := mk_get hoj
    rw [hx] at this
    cases this
    obtain ⟨e, g1, g2, g3⟩ := waits_bit hxb
    have hlt := edge_back h3 hoj g1 g2
    refine ⟨j, by omega, by omega, ?_⟩
    unfold Region.waitsFor
    have : ops.toArray[j]? = some ops[j] := by simp [hjl]
    rw [this]
    exact Array.any_eq_true'.2 ⟨e, g1, by simp [g2, g3]⟩
  · unfold Region.chainB
    simp only [List.all_eq_true, List.mem_range, Bool.or_eq_true, decide_eq_true_eq]
    intro t ht
    have ht' : t < ops.length := by simpa using ht
    have hot : ops[t]? = some ops[t] := by simp
    have := chainM_get h5 (mk_get hot)
    rw [Nat.zero_add, Bool.or_eq_true] at this
    rcases this with g | g
    · exact .inl (Nat.le_of_ble_eq_true g)
    · right
      obtain ⟨e, g1, g2, g3⟩ := waits_bit g
      unfold Region.waitsFor
      have : ops.toArray[t]? = some ops[t] := by simp [ht']
      rw [this]
      exact Array.any_eq_true'.2 ⟨e, g1, by simp [g2, g3]⟩
  · simpa [firstK] using lexHead_fast h3 h4 h5 (ops.length - n) (by omega) n 0 (by omega)
end
end Go.Proofs.YtmnenigmkfnciaaGreatDoor.Sx
