/- The walk by computation: a region that draws its order, by a plan: what floats is made ahead. No condition. -/
import Derived.Test.YtmnenigmkfnciaaGreatDoorSxT
namespace Go.Proofs.YtmnenigmkfnciaaGreatDoor.Sx
open Go
set_option linter.unusedSimpArgs false
set_option linter.unusedVariables false
variable {ds : List Deferred}

section sem
variable {P : Program} {ops : Array Oper} {Q : Exit → Act → World → Prop} {q : Nat → Bool} {W : Nat → Nat → Bool}
/-- What is still asked behind j. -/
def nx (q : Nat → Bool) (W : Nat → Nat → Bool) (j : Nat) (T : List (Nat × (World → Prop))) : List (Nat × (World → Prop)) := match q j with
  | true => T
  | false => T.filter fun x => !W j x.1
theorem nx_sub {j : Nat} {T T' : List (Nat × (World → Prop))} (h : ∀ x ∈ T', x ∈ T) : ∀ x ∈ nx q W j T', x ∈ nx q W j T := by
  intro x hx
  unfold nx at hx ⊢
  split at hx
  · exact h x hx
  · rw [List.mem_filter] at hx ⊢
    exact ⟨h x hx.1, hx.2⟩
theorem nx_of {j : Nat} {T : List (Nat × (World → Prop))} : ∀ x ∈ nx q W j T, x ∈ T := by
  intro x hx
  unfold nx at hx
  split at hx
  · exact hx
  · exact (List.mem_filter.1 hx).1
theorem nx_cons {j i : Nat} {X : World → Prop} {T : List (Nat × (World → Prop))} (h : W j i = false) : nx q W j ((i, X) :: T) = (i, X) :: nx q W j T := by
  unfold nx
  split
  · rfl
  · simp [h]
/-- As 'wpAny'; behind each operation the world is asked for what is tracked; and so in every world that has grown. -/
def wpAnyT (P : Program) (ops : Array Oper) (Q : Exit → Act → World → Prop) (q : Nat → Bool) (W : Nat → Nat → Bool) : Nat → List (Nat × (World → Prop)) → Array Bool → Act → World → Prop
  | 0, _, listed, a, w => ∀ w1, Fr [] w w1 → Region.ready .any ops listed = [] ∧ Q .normal a w1
  | f + 1, T, listed, a, w => ∀ w1, Fr [] w w1 → (Region.ready .any ops listed = [] → Q .normal a w1) ∧
    ∀ j ∈ Region.ready .any ops listed, wpOp P ops Q j (fun a' w' => ((∀ x ∈ nx q W j T, x.2 w') ∧ GOK [] w') ∧ wpAnyT P ops Q q W f (nx q W j T) (listed.setIfInBounds j true) a' w') a w1
theorem wpAny_of_T : ∀ (f : Nat) (T : List (Nat × (World → Prop))) (listed : Array Bool) (a : Act) (w : World), wpAnyT P ops Q q W f T listed a w → wpAny P .any ops Q f listed a w
  | 0, _, _, _, w, h => h w (Fr.refl _ _)
  | f + 1, _, _, _, w, h => ⟨(h w (Fr.refl _ _)).1, fun j hj => wpOp_mono (fun a' w' h' => wpAny_of_T f _ _ _ _ h'.2) ((h w (Fr.refl _ _)).2 j hj)⟩
theorem wpAnyT_drop : ∀ (f : Nat) (T T' : List (Nat × (World → Prop))) (listed : Array Bool) (a : Act) (w : World), (∀ x ∈ T', x ∈ T) → wpAnyT P ops Q q W f T listed a w → wpAnyT P ops Q q W f T' listed a w
  | 0, _, _, _, _, _, _, h => h
  | f + 1, T, T', _, _, _, hs, h => fun w1 hw1 => ⟨(h w1 hw1).1, fun j hj => wpOp_mono (fun a' w' h' => ⟨⟨fun x hx => h'.1.1 x (nx_sub hs x hx), h'.1.2⟩, wpAnyT_drop f _ _ _ _ _ (nx_sub hs) h'.2⟩) ((h w1 hw1).2 j hj)⟩
theorem wpAnyT_grow {f : Nat} {T : List (Nat × (World → Prop))} {listed : Array Bool} {a : Act} {w w1 : World} (h : wpAnyT P ops Q q W f T listed a w) (hw : Fr [] w w1) : wpAnyT P ops Q q W f T listed a w1 := by
  cases f with
  | zero => exact fun w2 hw2 => h w2 (hw.call hw2 (by simp))
  | succ f => exact fun w2 hw2 => h w2 (hw.call hw2 (by simp))
/-- What is tracked stays so in a world that has grown. -/
def MonoT (T : List (Nat × (World → Prop))) : Prop := ∀ x ∈ T, ∀ w w', x.2 w → Fr [] w w' → x.2 w'
theorem MonoT.nx {T : List (Nat × (World → Prop))} (h : MonoT T) {j : Nat} : MonoT (nx q W j T) := fun x hx => h x (nx_of x hx)

/-- What is listed: all that it waits for is. -/
def Closed (ops : Array Oper) (listed : Array Bool) : Prop :=
  ∀ (j : Nat) (oj : Oper), ops[j]? = some oj → listed.getD j false = true → ∀ e ∈ oj.after, Region.binds .any e = true → listed.getD e.on false = true
theorem Closed.none (n : Nat) : Closed ops (Array.replicate n false) := fun j oj _ h => by rw [getD_replicate_false] at h; cases h
theorem Closed.set {listed : Array Bool} {j : Nat} (h : Closed ops listed) (hj : j ∈ Region.ready .any ops listed) : Closed ops (listed.setIfInBounds j true) := by
  intro k ok hk hl e he hb
  by_cases e1 : k = j
  · subst e1
    obtain ⟨_, oj, hoj, hall⟩ := mem_ready.1 hj
    rw [hk] at hoj; cases hoj
    exact getD_set_true (hall e he hb)
  · rw [getD_set_ne false (Ne.symm e1)] at hl
    exact getD_set_true (h k ok hk hl e he hb)
/-- 'W j i': j waits for i, at however many hands. -/
def WOK (ops : Array Oper) (W : Nat → Nat → Bool) : Prop := ∀ listed, Closed ops listed → ∀ j ∈ Region.ready .any ops listed, ∀ i, W j i = true → listed.getD i false = true

theorem getD_ft {listed : Array Bool} {i : Nat} (h : listed.getD i true = false) : listed.getD i false = false := by
  rcases Nat.lt_or_ge i listed.size with h' | h'
  · simp [h'] at h ⊢; exact h
  · simp [Array.getElem?_eq_none h']

theorem wpAnyT_track {i : Nat} {oi : Oper} {v : Value} {m : Sem Next} {X : World → Prop} (hi : ops[i]? = some oi) (hsel : ∀ (j : Nat) (o : Oper) cs b, ops[j]? = some o → o.op ≠ .select cs b)
    (hQ : ∀ c a w, Q (.panic c) (a.put oi.dst v) w → Q (.panic c) a w) (hW : WOK ops W) (hq : q i = true) (hX : ∀ w, X w → m.run P w = .ok (.value v) w) (hXm : ∀ w w', X w → Fr [] w w' → X w') :
    ∀ (f : Nat) (T : List (Nat × (World → Prop))) (listed : Array Bool) (a : Act) (w : World), Closed ops listed →
      (∀ j oj, ops[j]? = some oj → j ≠ i → listed.getD j true = false → (∀ e ∈ oj.after, Region.binds .any e = true → e.on ≠ i) → oi.apart ops oj = true) →
      i ∈ Region.ready .any ops listed → (execOp a.eval oi = m ∧ Region.wanted oi (yielded ops a.tmps) = true) → X w → MonoT T → (∀ x ∈ T, x.2 w) → GOK [] w →
      wpAnyT P ops Q q W f ((i, X) :: T) (listed.setIfInBounds i true) (a.put oi.dst v) w → wpAnyT P ops Q q W (f + 1) T listed a w := by
  have hnx : ∀ T, nx q W i T = T := fun T => by simp [nx, hq]
  have now : ∀ (a : Act) (w : World) (K : Act → World → Prop), (execOp a.eval oi = m ∧ Region.wanted oi (yielded ops a.tmps) = true) → X w → K (a.put oi.dst v) w → wpOp P ops Q i K a w := by
    rintro a w K ⟨e1, e2⟩ hx hk
    unfold Go.wpOp
    simp only [hi, e2, if_true, Oper.wp, e1, hX w hx, Oper.upon]
    exact .inl hk
  intro f
  induction f with
  | zero =>
    intro T listed a w _ _ hr hE hx hTm hT hG H w1 hw1
    refine ⟨fun h => (by rw [h] at hr; cases hr), fun j hj => ?_⟩
    by_cases hji : j = i
    · subst hji
      refine now _ _ _ hE (hXm _ _ hx hw1) ?_
      rw [hnx]
      exact ⟨⟨fun x h => hTm x h _ _ (hT x h) hw1, hG.mono hw1⟩, wpAnyT_grow (f := 0) (T := T) H hw1⟩
    · have := ready_mono hj hji
      rw [(H w1 hw1).1] at this
      cases this
  | succ f ih =>
    intro T listed a w hcl hfree hr hE hx hTm hT hG H w1 hw1
    refine ⟨fun h => (by rw [h] at hr; cases hr), fun j hj => ?_⟩
    by_cases hji : j = i
    · subst hji
      refine now _ _ _ hE (hXm _ _ hx hw1) ?_
      rw [hnx]
      exact ⟨⟨fun x h => hTm x h _ _ (hT x h) hw1, hG.mono hw1⟩, wpAnyT_grow (wpAnyT_drop _ _ _ _ _ _ (fun x h => List.mem_cons_of_mem _ h) H) hw1⟩
    · obtain ⟨hjun, oj, hoj, hall⟩ := mem_ready.1 hj
      have hil := (mem_ready.1 hr).1
      have hWji : W j i = false := by
        cases hw : W j i with
        | false => rfl
        | true =>
          have := hW listed hcl j hj i hw
          rw [getD_ft hil] at this; cases this
      have h1 := (H w1 hw1).2 j (ready_mono hj hji)
      have hnot : ∀ e ∈ oj.after, Region.binds .any e = true → e.on ≠ i := fun e he hb heq => by
        have h1 := hall e he hb
        rw [heq, getD_ft hil] at h1; cases h1
      have h2 := wpOp_putE hoj (hfree j oj hoj hji hjun hnot) (fun cs b => hsel i oi cs b hi) (fun cs b => hsel j oj cs b hoj) hQ h1
      have hfree' : ∀ k ok, ops[k]? = some ok → k ≠ i → (listed.setIfInBounds j true).getD k true = false →
          (∀ e ∈ ok.after, Region.binds .any e = true → e.on ≠ i) → oi.apart ops ok = true := fun k ok hk hki hun hno => by
        refine hfree k ok hk hki ?_ hno
        by_cases hjk : j = k
        · subst hjk; exact hjun
        · rw [getD_set_ne true hjk] at hun; exact hun
      rw [nx_cons hWji] at h2
      refine wpOp_mono (fun a' w' h3 => ⟨⟨fun x hx => h3.2.1.1 x (List.mem_cons_of_mem _ hx), h3.2.1.2⟩, ih (nx q W j T) (listed.setIfInBounds j true) a' w' (hcl.set hj) hfree' (ready_mono hr (Ne.symm hji)) ⟨h3.1.1.trans hE.1, h3.1.2.trans hE.2⟩ (h3.2.1.1 (i, X) (by simp)) hTm.nx (fun x hx => h3.2.1.1 x (List.mem_cons_of_mem _ hx)) h3.2.1.2 ?_⟩) h2
      rw [Array.setIfInBounds_comm _ _ hji]
      exact h3.2.2

/-- In whatever world: this value; the world grows at most. -/
def YieldsQ (P : Program) (ops : Array Oper) (o : Oper) (v : Value) (a : Act) : Prop :=
  (Region.wanted o (yielded ops a.tmps) = true ∧ ∀ w, GOK [] w → Yl P w a o v) ∨ (Region.wanted o (yielded ops a.tmps) = false ∧ v = undef)
theorem YieldsQ.of_same {o : Oper} {v : Value} {a a' : Act} (hy : YieldsQ P ops o v a) (he : execOp a'.eval o = execOp a.eval o)
    (hw : Region.wanted o (yielded ops a'.tmps) = Region.wanted o (yielded ops a.tmps)) : YieldsQ P ops o v a' := by
  unfold YieldsQ Yl Oper.quietAt at *
  rw [he, hw]
  exact hy
theorem YieldsQ.wpOp {i : Nat} {o : Oper} {v : Value} {a : Act} (hi : ops[i]? = some o) (hy : YieldsQ P ops o v a) {K : Act → World → Prop} {w : World} (hG : GOK [] w) (h : ∀ w', Fr [] w w' → K (a.put o.dst v) w') : wpOp P ops Q i K a w := by
  unfold Go.wpOp
  simp only [hi]
  rcases hy with ⟨hw, hv⟩ | ⟨hw, rfl⟩
  · simp only [hw, if_true]
    exact .inl (Oper.wp_of_quiet (C := Fr [] w) (K := fun a' => a' = a.put o.dst v) (Fr.refl _ _) (fun a' w' hw' ha' => by subst ha'; exact h w' hw') ⟨v, hv w hG, rfl⟩)
  · simp only [hw, Bool.false_eq_true, if_false]; exact h w (Fr.refl _ _)

theorem wpAnyT_take {i : Nat} {oi : Oper} {v : Value} (hi : ops[i]? = some oi) (hsel : ∀ (j : Nat) (o : Oper) cs b, ops[j]? = some o → o.op ≠ .select cs b)
    (hQ : ∀ c a w, Q (.panic c) (a.put oi.dst v) w → Q (.panic c) a w) (hq : q i = true) :
    ∀ (f : Nat) (T : List (Nat × (World → Prop))) (listed : Array Bool) (a : Act) (w : World),
      (∀ j oj, ops[j]? = some oj → j ≠ i → listed.getD j true = false → (∀ e ∈ oj.after, Region.binds .any e = true → e.on ≠ i) → oi.apart ops oj = true) →
      i ∈ Region.ready .any ops listed → YieldsQ P ops oi v a → MonoT T → (∀ x ∈ T, x.2 w) → GOK [] w →
      wpAnyT P ops Q q W f T (listed.setIfInBounds i true) (a.put oi.dst v) w → wpAnyT P ops Q q W (f + 1) T listed a w := by
  have hnx : ∀ T, nx q W i T = T := fun T => by simp [nx, hq]
  intro f
  induction f with
  | zero =>
    intro T listed a w _ hr hy hTm hT hG H w1 hw1
    refine ⟨fun h => (by rw [h] at hr; cases hr), fun j hj => ?_⟩
    by_cases hji : j = i
    · subst hji
      refine hy.wpOp hi (hG.mono hw1) fun w2 hw2 => ?_
      rw [hnx]
      have hw := hw1.call hw2 (by simp)
      exact ⟨⟨fun x h => hTm x h _ _ (hT x h) hw, hG.mono hw⟩, wpAnyT_grow H hw⟩
    · have := ready_mono hj hji
      rw [(H w1 hw1).1] at this
      cases this
  | succ f ih =>
    intro T listed a w hfree hr hy hTm hT hG H w1 hw1
    refine ⟨fun h => (by rw [h] at hr; cases hr), fun j hj => ?_⟩
    by_cases hji : j = i
    · subst hji
      refine hy.wpOp hi (hG.mono hw1) fun w2 hw2 => ?_
      rw [hnx]
      have hw := hw1.call hw2 (by simp)
      exact ⟨⟨fun x h => hTm x h _ _ (hT x h) hw, hG.mono hw⟩, wpAnyT_grow H hw⟩
    · obtain ⟨hjun, oj, hoj, hall⟩ := mem_ready.1 hj
      have hil := (mem_ready.1 hr).1
      have h1 := (H w1 hw1).2 j (ready_mono hj hji)
      have hnot : ∀ e ∈ oj.after, Region.binds .any e = true → e.on ≠ i := fun e he hb heq => by
        have h1 := hall e he hb
        rw [heq, getD_ft hil] at h1; cases h1
      have h2 := wpOp_putE hoj (hfree j oj hoj hji hjun hnot) (fun cs b => hsel i oi cs b hi) (fun cs b => hsel j oj cs b hoj) hQ h1
      have hfree' : ∀ k ok, ops[k]? = some ok → k ≠ i → (listed.setIfInBounds j true).getD k true = false →
          (∀ e ∈ ok.after, Region.binds .any e = true → e.on ≠ i) → oi.apart ops ok = true := fun k ok hk hki hun hno => by
        refine hfree k ok hk hki ?_ hno
        by_cases hjk : j = k
        · subst hjk; exact hjun
        · rw [getD_set_ne true hjk] at hun; exact hun
      refine wpOp_mono (fun a' w' h3 => ⟨h3.2.1, ih (nx q W j T) (listed.setIfInBounds j true) a' w' hfree' (ready_mono hr (Ne.symm hji)) (hy.of_same h3.1.1 h3.1.2) hTm.nx h3.2.1.1 h3.2.1.2 ?_⟩) h2
      rw [Array.setIfInBounds_comm _ _ hji]
      exact h3.2.2
end sem

/-! ### The plan -/
inductive Sp where
  | z
  | e
  | p (i : Nat) (r : Sp)
  | l (i : Nat) (r : Sp)
  | b (i : Nat) (r n : Sp)
def Sp.depth : Sp → Nat
  | .z => 0
  | .e => 0
  | .p _ r => r.depth + 1
  | .l _ r => r.depth + 1
  | .b _ r n => Nat.max (r.depth + 1) n.depth
def Sp.isE : Sp → Bool
  | .e => true
  | _ => false
def Sp.isB : Sp → Bool
  | .e => true
  | .b _ _ _ => true
  | _ => false
def andE (b : Bool) (p q : Prop) : Prop := match b with
  | true => p
  | false => p ∧ q
theorem andE_iff {b : Bool} {p q : Prop} (h : andE b p q) : p ∧ (b = false → q) := by
  cases b with
  | true => exact ⟨h, fun h => by cases h⟩
  | false => exact ⟨h.1, fun _ => h.2⟩
/-- What each waits for, at however many hands. -/
def anc1 (a : Nat) : Nat → List Nat → Nat
  | _, [] => a
  | k, x :: r => match Nat.testBit a k with
    | true => Nat.lor x (anc1 a (k + 1) r)
    | false => anc1 a (k + 1) r
def ancs : List Nat → List Mk → List Nat
  | acc, [] => acc
  | acc, m :: r => ancs (acc ++ [anc1 m.a 0 acc]) r
/-- Types without an address. -/
def flatTs (P : Program) : List TypeId → Bool
  | [] => true
  | t :: r => match P.underlying t with
    | some (.int _) | some .string | some .bool | some (.float _) => flatTs P r
    | _ => false
def isPg (P : Program) (S : Specs) (o : Oper) : Bool := match o.op with
  | .convert src _ _ => match P.underlying src with
    | some (.int _) => true
    | _ => false
  | .slice t _ _ _ _ => match P.underlying t with
    | some .string => true
    | some (.slice _) => true
    | _ => false
  | .call c => match c.callee with
    | .builtin .len => match c.argTypes[0]? with
      | some t => match P.underlying t with
        | some (.map _ _) => false
        | _ => true
      | none => false
    | .value (.func f) => match specOf S f with
      | some (.q _) => flatTs P c.argTypes.toList
      | some (.x _) => flatTs P c.argTypes.toList
      | _ => false
    | _ => false
  | .move _ | .assign _ | .binOp .. | .unOp .. | .field .. | .index .. | .extract .. | .fieldAddr .. | .indexAddr .. | .nilCheck _ | .makeFunc .. | .pick .. | .build .. | .makeInterface .. => true
  | _ => false
def isLd (o : Oper) : Bool := match o.op, o.dst with
  | .load _ x, some d => neT x d
  | _, _ => false
/-- Every one that is not listed waits for i, or is apart. -/
def freeU (i : Nat) (x : Mk) (l : Nat) : Nat → List Mk → Bool
  | _, [] => true
  | k, y :: r => (Nat.beq k i || Nat.testBit l k || Nat.testBit y.a i || apartM x y) && freeU i x l (k + 1) r
def rdy (m : Mk) (l : Nat) : Bool := Nat.beq (Nat.land m.a l) m.a
/-- Every one that is ready is in acc. -/
def covU (l acc : Nat) : Nat → List Mk → Bool
  | _, [] => true
  | k, y :: r => (Nat.testBit acc k || Nat.testBit l k || !rdy y l) && covU l acc (k + 1) r
/-- The ready ones. -/
def rdyL (l : Nat) : Nat → List Mk → List Nat
  | _, [] => []
  | k, m :: s => match !Nat.testBit l k && rdy m l with
    | true => k :: rdyL l (k + 1) s
    | false => rdyL l (k + 1) s
def gen (ops : List Oper) (ms : List Mk) (l : Nat) (c : Oper → Bool) : Nat → List Oper → List Mk → Option Nat
  | k, o :: r, m :: s => match !Nat.testBit l k && rdy m l && c o && freeU k m l 0 ms with
    | true => some k
    | false => gen ops ms l c (k + 1) r s
  | _, _, _ => none
def brs (f : Nat → Sp) : List Nat → Sp
  | [] => .e
  | i :: r => .b i (f i) (brs f r)
def mkPlan (P : Program) (S : Specs) (ops : List Oper) (ms : List Mk) : Nat → Nat → Sp
  | 0, _ => .z
  | f + 1, l => match gen ops ms l (isPg P S) 0 ops ms with
    | some i => .p i (mkPlan P S ops ms f (Nat.lor l (2 ^ i)))
    | none => match gen ops ms l isLd 0 ops ms with
      | some i => .l i (mkPlan P S ops ms f (Nat.lor l (2 ^ i)))
      | none => match rdyL l 0 ms with
        | [] => .z
        | i :: r => match Nat.ble r.length 3 with
          | true => brs (fun i => mkPlan P S ops ms f (Nat.lor l (2 ^ i))) (i :: r)
          | false => .e
/-- The floating ones. -/
def flM : Sp → Nat
  | .z => 0
  | .e => 0
  | .p i r => Nat.lor (2 ^ i) (flM r)
  | .l i r => Nat.lor (2 ^ i) (flM r)
  | .b _ r n => Nat.lor (flM r) (flM n)
def okPlan (ops : List Oper) (ms : List Mk) (n fl : Nat) : Sp → Nat → Nat → Nat → Bool
  | .z, l, _, acc => Nat.beq acc 0 && covU l 0 0 ms
  | .e, l, _, acc => !Nat.beq acc 0 && covU l acc 0 ms
  | .p i r, l, tm, acc => match nth ops i, nth ms i with
    | some _, some m => (Nat.beq acc 0 && (!Nat.testBit l i && (rdy m l && (Nat.beq (Nat.land m.d tm) 0 && (freeU i m l 0 ms && Nat.testBit fl i))))) && okPlan ops ms n fl r (Nat.lor l (2 ^ i)) tm 0
    | _, _ => false
  | .l i r, l, tm, acc => match nth ops i, nth ms i with
    | some o, some m => (Nat.beq acc 0 && (!Nat.testBit l i && (rdy m l && (isLd o && (Nat.beq (Nat.land m.d tm) 0 && (freeU i m l 0 ms && Nat.testBit fl i)))))) && okPlan ops ms n fl r (Nat.lor l (2 ^ i)) (Nat.lor tm (Nat.lor m.r m.d)) 0
    | _, _ => false
  | .b i r nx, l, tm, acc => match nth ops i, nth ms i with
    | some _, some m => (!Nat.testBit l i && (rdy m l && (Nat.beq (Nat.land m.d tm) 0 && (!Nat.testBit fl i && nx.isB)))) && (okPlan ops ms n fl r (Nat.lor l (2 ^ i)) tm 0 && okPlan ops ms n fl nx l tm (Nat.lor acc (2 ^ i)))
    | _, _ => false
def fastG (ops : List Oper) (ms : List Mk) (pl : Sp) : Bool := noSel ops && (backM 0 ms && (Nat.ble pl.depth ops.length && okPlan ops ms ops.length (flM pl) pl 0 0 0))

/-- One operation that looks at no memory. -/
def pureR (P : Program) (env : Env) (o : Op) (K : SV → Prop) : Prop := match o with
  | .pick c a b => ev env c fun sc => match sc with
    | .v (.bool t) => pickS t (evo env a) (evo env b) K
    | _ => False
  | .convert src dst x => ev env x fun s => match s, P.underlying src, P.underlying dst with
    | .v (.int _ x), some (.int _), some (.int k') => K (.v (.int k' (k'.wrap x)))
    | _, _, _ => False
  | .call c => match c.callee, evs env c.args.toList with
    | .builtin .len, some [s] => match c.argTypes[0]? with
      | some t => match s with
        | .mp _ => False
        | s => lenS P t s K
      | none => False
    | _, _ => False
  | .build t parts => match evsN env parts.toList with
    | some l => buildS P t l K
    | none => False
  | .slice t x lo hi m => ev env x fun s => match s with
    | .v s => bnd env lo fun l => bnd env hi fun h => bnd env m fun m => sliceS P [] t (.v s) l h m K
    | .slc i off len cp sz => bnd env lo fun l => bnd env hi fun h => bnd env m fun m => sliceS P [] t (.slc i off len cp sz) l h m K
    | _ => False
  | .nilCheck x => ev env x fun s => match s with
    | .ptr i off => K (.ptr i off)
    | .pix i off s ix c => K (.pix i off s ix c)
    | .fn (.func f) a b => K (.fn (.func f) a b)
    | .fn (.method name) [.ifc t s] b => match invT P t name with
      | some _ => K (.fn (.method name) [.ifc t s] b)
      | none => False
    | _ => False
  | .makeFunc f first cap => match evs env first.toList, evs env cap.toList with
    | some a, some b => K (.fn f a b)
    | _, _ => False
  | .makeInterface t x => ev env x fun s => match P.underlying t with
    | some u => match u with
      | .interface _ => False
      | _ => K (.ifc t s)
    | none => False
  | o => pureP P env o K
/-- The same, or a call that is given no memory and leaves all as it was. -/
def pureG (P : Program) (S : Specs) (env : Env) (o : Op) (K : SV → Prop) : Prop := match o with
  | .call c => match c.callee with
    | .value _ => calleeS P env c fun f l => match specOf S f, plainL l with
      | some (.q g), true => g (normL l) [] K
      | some (.x g), true => g (normL l) K
      | _, _ => False
    | _ => pureR P env o K
  | _ => pureR P env o K
abbrev TL := Nat × TypeId × Operand × Nat
/-- A load made ahead, made once more. -/
def chkY (P : Program) (t : TypeId) (x : Operand) (d : Nat) (st : St) (C : Prop) : Prop :=
  match evo st.env x, look st.env d with
  | some p, some s => loadP P st.tbl t p fun s' => detK s s' C
  | _, _ => False
def chkT (P : Program) : List TL → St → Prop → Prop
  | [], _, C => C
  | (_, t, x, d) :: r, st, C => chkY P t x d st (chkT P r st C)
def nxT (an : Option Nat) : List TL → List TL
  | [] => []
  | x :: r => match an with
    | some m => match Nat.testBit m x.1 with
      | true => nxT an r
      | false => x :: nxT an r
    | none => x :: nxT an r
def vg (P : Program) (S : Specs) (ops : List Oper) (an : List Nat) : Sp → List TL → St → (St → Prop) → Prop
  | .z, _, st, K => K st
  | .e, _, _, _ => True
  | .p i r, T, st, K => match nth ops i with
    | some o => gd ops st.env o.guard
      (fun env => pureG P S env o.op fun s => putE st.nt o.dst s env fun env => vg P S ops an r T { st with env := env } K)
      (fun env => putE st.nt o.dst (.v undef) env fun env => vg P S ops an r T { st with env := env } K)
    | none => False
  | .l i r, T, st, K => match nth ops i with
    | some o => gd ops st.env o.guard
      (fun env => match o.op, o.dst with
        | .load t x, some d => match evo env x with
          | some p => loadP P st.tbl t p fun s => putE st.nt (some d) s env fun env => vg P S ops an r ((i, t, x, d) :: T) { st with env := env } K
          | none => False
        | _, _ => False)
      (fun env => putE st.nt o.dst (.v undef) env fun env => vg P S ops an r T { st with env := env } K)
    | none => False
  | .b i r n, T, st, K => andE n.isE (match nth ops i with
    | some o => gd ops st.env o.guard
      (fun env => match isQ P S env o.op with
        | true => qop P S env st.tbl o.op fun s => putE st.nt o.dst s env fun env => vg P S ops an r (nxT (nth an i) T) { st with env := env } K
        | false => match growsO o with
          | true => eop P { st with env := env } o.op fun s tbl => putE st.nt o.dst s env fun env => vg P S ops an r (nxT (nth an i) T) { st with env := env, tbl := tbl } K
          | false => mop P S { st with env := env } o.op fun s st => chkT P (nxT (nth an i) T) st (putE st.nt o.dst s st.env fun env => vg P S ops an r (nxT (nth an i) T) { st with env := env } K))
      (fun env => putE st.nt o.dst (.v undef) env fun env => vg P S ops an r (nxT (nth an i) T) { st with env := env } K)
    | none => False) (vg P S ops an n T st K)

/-! ### It is sound -/
section
variable {P : Program} {S : Specs} {B : Base} {ρ0 : Nat → Nat} {σ0 : Nat → Nat × Nat}

theorem sliceS_v {tbl tbl' : List Blk} {t : TypeId} {x : Value} {l h m : Option Int} {K : SV → Prop} (hh : sliceS P tbl t (.v x) l h m K) : sliceS P tbl' t (.v x) l h m K := by
  unfold sliceS at *
  generalize P.underlying t = u at *
  split at hh <;> first | exact hh.elim | skip
  · rename_i s e; cases e; exact hh
  · rename_i e; cases e
  · rename_i e; cases e
  · rename_i e; cases e; exact hh
theorem sliceS_c {tbl tbl' : List Blk} {t : TypeId} {i off len cp sz : Nat} {l h m : Option Int} {K : SV → Prop} (hh : sliceS P tbl t (.slc i off len cp sz) l h m K) : sliceS P tbl' t (.slc i off len cp sz) l h m K := by
  unfold sliceS at *
  generalize P.underlying t = u at *
  cases u with
  | none => exact hh
  | some u => cases u <;> exact hh
theorem TOK.deads {ρ : Nat → Nat} {σ : Nat → Nat × Nat} {w : World} (n : Nat) (hG : GOK [] w) : TOK ρ σ { A := [], W := [], w0 := w } (List.replicate n Blk.dead) w := by
  have hd : ∀ {i b}, (List.replicate n Blk.dead)[i]? = some b → b = Blk.dead := fun {i b} h => by
    have := List.mem_of_getElem? h
    exact List.eq_of_mem_replicate this
  refine ⟨hG, Fr.refl _ _, fun i b hi h => ?_, fun i b hi h => ?_, fun i b hi h => ?_, fun i j b c hi hj h => ?_, fun i b hi h => ?_, fun i b hi h => ?_, fun i b hi h => ?_, fun i j b c hi hj h => ?_⟩ <;> (rw [hd hi] at h; cases h)
theorem pureR_sound {n : Nat} {ρ : Nat → Nat} {σ : Nat → Nat × Nat} {env : Env} {nt : Nat} {a : Act} (hE : EOK ds n ρ σ env nt a) {o : Oper} {K : SV → Prop} (h : pureR P env o.op K) :
    ∃ s v, K s ∧ Rel n ρ σ s v ∧ ∀ w, (execOp a.eval o).run P w = .ok (.value v) w := by
  unfold pureR at h
  split at h
  · rename_i c x y ho
    obtain ⟨s, hs, h⟩ := ev_spec h
    have hc := evo_sound hE hs
    split at h
    · rename_i t
      simp only [Rel] at hc
      have hrun : ∀ w, (execOp a.eval o).run P w = .ok (.value (if t then a.eval x else a.eval y)) w := fun w => by simp [execOp, ho, hc, asBool]
      unfold pickS at h
      split at h
      · rename_i p q hp hq
        have hp := evo_sound hE hp
        have hq := evo_sound hE hq
        simp only [Rel] at hp hq
        refine ⟨_, _, h, rfl, fun w => ?_⟩
        rw [hrun, hp, hq]; cases t <;> rfl
      · rename_i p q _ hp hq
        have hp := evo_sound hE hp
        have hq := evo_sound hE hq
        cases t
        · exact ⟨q, _, h, hq, fun w => hrun w⟩
        · exact ⟨p, _, h, hp, fun w => hrun w⟩
      · exact h.elim
    · exact h.elim
  · rename_i src dst x ho
    obtain ⟨s, hs, h⟩ := ev_spec h
    have hr := evo_sound hE hs
    split at h
    · rename_i k y k2 k' h1 h2
      simp only [Rel] at hr
      refine ⟨_, _, h, rfl, fun w => ?_⟩
      simp [execOp, ho, hr, convert, run_und w h1, run_und w h2, Conv.intToInt]
    · exact h.elim
  · rename_i c ho
    split at h
    · rename_i s hc hx
      split at h
      · rename_i t ht
        have hs := evs_sound hE hx
        obtain ⟨v, _, e1, hv, e2⟩ := hs
        simp only [RelL] at e2
        subst e2
        have hargs : c.args.map a.eval = #[v] := by
          apply Array.ext'
          simpa using e1
        split at h
        · exact h.elim
        · obtain ⟨s', v', hK, hv', hrun⟩ := lenS_sound (ts := c.argTypes) (ty := o.type) ht hv h
          refine ⟨s', v', hK, hv', fun w => ?_⟩
          have := hrun w
          simp [execOp, ho, resolve, hc, hargs, invoke, builtin, this]
      · exact h.elim
    · exact h.elim
  · rename_i t parts ho
    split at h
    · rename_i l hl
      have hp := evsN_sound hE hl
      obtain ⟨s, v, hK, hv, hrun⟩ := buildS_sound (P := P) (vparts := (_ : Array _).map fun (i, x) => (i, a.eval x)) (by simpa using hp) h
      exact ⟨s, v, hK, hv, fun w => by simp [execOp, ho, hrun w]⟩
    · exact h.elim
  · rename_i t x lo hi m ho
    obtain ⟨s, hs, h⟩ := ev_spec h
    have hr := evo_sound hE hs
    have hT : ∀ {i : Nat} {b : Blk}, nth (List.replicate n Blk.dead) i = some b → b.isDead = false → ∃ pre, Pre (List.replicate n Blk.dead).length ρ σ b pre ∧ (pre.length = 0 ∨ ∀ w : World, Fr [] default w → Lies w (ρ i) (σ i) pre) ∧ pre.length ≤ (σ i).1 := fun {i b} h1 h2 => by
      rw [nth_eq] at h1
      rw [List.eq_of_mem_replicate (List.mem_of_getElem? h1)] at h2
      cases h2
    have fin : ∀ {l hh m'}, BndR (lo.map a.eval) l → BndR (hi.map a.eval) hh → BndR (m.map a.eval) m' → sliceS P (List.replicate n .dead) t s l hh m' K → ∃ s v, K s ∧ Rel n ρ σ s v ∧ ∀ w, (execOp a.eval o).run P w = .ok (.value v) w := fun h1 h2 h3 h => by
      obtain ⟨s', v, hK, hv, hrun⟩ := sliceS_sound (P := P) hT h1 h2 h3 (by simpa using hr) h
      exact ⟨s', v, hK, by simpa using hv, fun w => by simp [execOp, ho, hrun w]⟩
    split at h
    · obtain ⟨l, h, hl⟩ := bnd_sound hE h
      obtain ⟨hh, h, hhi⟩ := bnd_sound hE h
      obtain ⟨m', h, hm⟩ := bnd_sound hE h
      exact fin hl hhi hm (sliceS_v h)
    · obtain ⟨l, h, hl⟩ := bnd_sound hE h
      obtain ⟨hh, h, hhi⟩ := bnd_sound hE h
      obtain ⟨m', h, hm⟩ := bnd_sound hE h
      exact fin hl hhi hm (sliceS_c h)
    · exact h.elim
  · rename_i x ho
    obtain ⟨sx, hx, h⟩ := ev_spec h
    have hr := evo_sound hE hx
    split at h
    · have hr' := hr
      simp only [Rel] at hr'
      exact ⟨_, _, h, hr, fun w => by simp [execOp, ho, hr'.2]⟩
    · have hr' := hr
      simp only [Rel] at hr'
      exact ⟨_, _, h, hr, fun w => by simp [execOp, ho, hr'.2]⟩
    · have hr' := hr
      simp only [Rel] at hr'
      obtain ⟨x, y, h1, _⟩ := hr'
      exact ⟨_, _, h, hr, fun w => by simp [execOp, ho, h1]⟩
    · rename_i name t s b
      split at h
      · rename_i f hi
        have hr' := hr
        simp only [Rel, RelL] at hr'
        obtain ⟨x, y, h1, ⟨u, m, h2, ⟨v, rfl, _⟩, rfl⟩, _⟩ := hr'
        have hx0 : x[0]? = some (.iface t v) := by
          have : x.toList[0]? = some (.iface t v) := by rw [h2]; rfl
          simpa using this
        obtain ⟨k, hk⟩ : ∃ k, P.types.size + Made.depth = k + 1 := ⟨P.types.size + (Made.depth - 1), depth_succ _⟩
        refine ⟨_, _, h, hr, fun w => ?_⟩
        simp only [execOp, ho, h1, hx0, Sem.run_bind, run_program, Result.andThen_ok]
        rw [hk, run_nilAhead hi]
        rfl
      · exact h.elim
    · exact h.elim
  · rename_i f first cap ho
    split at h
    · rename_i l1 l2 h1 h2
      refine ⟨_, .func f (first.map a.eval) (cap.map a.eval), h, ?_, fun w => ?_⟩
      · simp only [Rel]
        exact ⟨_, _, rfl, by simpa using evs_sound hE h1, by simpa using evs_sound hE h2⟩
      · simp [execOp, ho, Instr.makeFunc]
    · exact h.elim
  · rename_i t x ho
    obtain ⟨sx, hx, h⟩ := ev_spec h
    have hr := evo_sound hE hx
    split at h
    · rename_i u hu
      split at h
      · exact h.elim
      · rename_i hni
        refine ⟨_, .iface t (a.eval x), h, by simp only [Rel]; exact ⟨_, rfl, hr⟩, fun w => ?_⟩
        have : (Instr.makeInterface t (a.eval x)).run P w = .ok (.iface t (a.eval x)) w := by
          unfold Instr.makeInterface
          simp only [Sem.run_bind, run_und w hu, Result.andThen_ok]
          rfl
        simp [execOp, ho, this]
    · exact h.elim
  · have h' : pureP P env ({ o with guard := none } : Oper).op K := h
    by_cases hg : isP { o with guard := none } = true
    · obtain ⟨s, v, h1, h2, h3⟩ := pureP_sound (ops := #[]) hE hg h'
      refine ⟨s, v, h1, h2, ?_⟩
      rcases h3 with ⟨_, h3⟩ | ⟨h3, _⟩
      · exact h3
      · simp [Region.wanted] at h3
    · exfalso
      unfold pureP at h'
      unfold isP at hg
      simp only at hg h'
      split at h' <;> simp_all

theorem RelL.zero {n : Nat} {ρ : Nat → Nat} {σ : Nat → Nat × Nat} {l : List SV} {u : List Value} (hp : plainL l = true) (h : RelL n ρ σ l u) : RelL 0 ρ σ l u :=
  RelL.cut (fun _ _ => ⟨rfl, rfl⟩) l u (plainL_lt l hp) h
theorem pureG_sound {n : Nat} {ρ : Nat → Nat} {σ : Nat → Nat × Nat} {env : Env} {nt : Nat} {a : Act} (hE : EOK ds n ρ σ env nt a) (hS : SpecsOK P S) {o : Oper} {K : SV → Prop} (h : pureG P S env o.op K) :
    ∃ s v, K s ∧ Rel n ρ σ s v ∧ ∀ w, GOK [] w → Yl P w a o v := by
  have old : pureR P env o.op K → ∃ s v, K s ∧ Rel n ρ σ s v ∧ ∀ w, GOK [] w → Yl P w a o v := fun h => by
    obtain ⟨s, v, h1, h2, h3⟩ := pureR_sound hE h
    exact ⟨s, v, h1, h2, fun w _ => Yl.of_run fun w' _ => h3 w'⟩
  unfold pureG at h
  split at h
  · rename_i c ho
    split at h
    · obtain ⟨f, l, as, h, hr, hx⟩ := calleeS_sound (P := P) hE ho h
      split at h
      · rename_i g hg hp
        obtain ⟨hent, hspec⟩ := hS f _ hg
        obtain ⟨s, hpv, hK, hf⟩ := hspec _ _ K h
        obtain ⟨v, hv⟩ := Option.isSome_iff_exists.1 hpv
        refine ⟨s, v, hK, (pvo_rel s v v hv).2 rfl, fun w hG w1 hw => ?_⟩
        unfold Oper.quietAt
        rw [hx, hent as w1]
        refine ⟨rfl, ?_⟩
        have hT : TOK ρ σ { A := [], W := [], w0 := w1 } [] w1 := TOK.deads 0 (hG.mono hw)
        refine (hf _ ρ σ as w1 (hr.zero hp).norm hT).mono ?_
        rintro e w' ⟨s', v', t', mv, ρ', σ', rfl, hrel, _, _, hT', rfl, rfl, rfl⟩
        rw [(pvo_rel s' v v' hv).1 hrel]
        exact ⟨rfl, hw.call hT'.fr (by simp)⟩
      · rename_i g hg hp
        obtain ⟨s, v, hK, hv, hrun⟩ := hS f _ hg _ ρ σ (normL l) as K hr.norm h
        exact ⟨s, v, hK, hv, fun w _ => Yl.of_run fun w' _ => by rw [hx, hrun]⟩
      · exact h.elim
    · exact old h
  · exact old h

/-! #### The order, by bit masks -/
section masks
variable {ops : List Oper}
def Rep (ops : List Oper) (listed : Array Bool) (l : Nat) : Prop := listed.size = ops.length ∧ ∀ j, j < ops.length → listed[j]? = some (Nat.testBit l j)
theorem Rep.getD {listed : Array Bool} {l : Nat} (h : Rep ops listed l) {j : Nat} (hj : j < ops.length) (d : Bool) : listed.getD j d = Nat.testBit l j := by
  rw [Array.getD_eq_getD_getElem?, h.2 j hj]; rfl
theorem Rep.zero : Rep ops (Array.replicate ops.length false) 0 := ⟨by simp, fun j hj => by simp [hj]⟩
theorem Rep.set {listed : Array Bool} {l i : Nat} (h : Rep ops listed l) (hi : i < ops.length) : Rep ops (listed.setIfInBounds i true) (Nat.lor l (2 ^ i)) := by
  refine ⟨by simp [h.1], fun j hj => ?_⟩
  have e : Nat.testBit (Nat.lor l (2 ^ i)) j = (Nat.testBit l j || decide (i = j)) := by
    show Nat.testBit (l ||| 2 ^ i) j = _
    rw [Nat.testBit_or, Nat.testBit_two_pow]
  rw [e, Array.getElem?_setIfInBounds]
  by_cases he : i = j
  · subst he; simp [h.1, hi]
  · rw [if_neg he, h.2 j hj]; simp [he]
theorem land_sub {a l i : Nat} (h : Nat.beq (Nat.land a l) a = true) (ha : Nat.testBit a i = true) : Nat.testBit l i = true := by
  have h := Nat.eq_of_beq_eq_true h
  have h1 : (a &&& l) = a := h
  have h2 : Nat.testBit (a &&& l) i = true := by rw [h1]; exact ha
  rw [Nat.testBit_and, Bool.and_eq_true] at h2
  exact h2.2
theorem sub_land {a l : Nat} (h : ∀ i, Nat.testBit a i = true → Nat.testBit l i = true) : Nat.beq (Nat.land a l) a = true := by
  have : (a &&& l) = a := by
    apply Nat.eq_of_testBit_eq
    intro i
    rw [Nat.testBit_and]
    cases ha : Nat.testBit a i with
    | false => rfl
    | true => rw [h i ha]; rfl
  have h2 : Nat.land a l = a := this
  rw [h2]; exact Nat.beq_refl _
theorem edge_bit {o : Oper} {i : Nat} (h : (mkOf ops o).a.testBit i = true) : ∃ e ∈ o.after, Region.binds .any e = true ∧ e.on = i := waits_bit h
theorem bit_edge {o : Oper} {e : Edge} (he : e ∈ o.after) (hb : Region.binds .any e = true) : (mkOf ops o).a.testBit e.on = true :=
  (testBit_bitsOf _ _).2 (mem_edgesOf.2 ⟨e, by simpa using he, hb, rfl⟩)

theorem ready_of (hb : backM 0 (ops.map (mkOf ops)) = true) {listed : Array Bool} {l i : Nat} {o : Oper} (hr : Rep ops listed l) (ho : ops[i]? = some o) (hn : Nat.testBit l i = false) (h : rdy (mkOf ops o) l = true) : i ∈ Region.ready .any ops.toArray listed := by
  have hi : i < ops.length := (List.getElem?_eq_some_iff.1 ho).1
  refine mem_ready.2 ⟨by rw [hr.getD hi]; exact hn, o, by simpa using ho, fun e he hbi => ?_⟩
  have h1 := edge_back hb ho he hbi
  rw [hr.getD (by omega)]
  exact land_sub h (bit_edge he hbi)
theorem rdy_of {listed : Array Bool} {l j : Nat} {o : Oper} (hb : backM 0 (ops.map (mkOf ops)) = true) (hr : Rep ops listed l) (ho : ops[j]? = some o) (h : j ∈ Region.ready .any ops.toArray listed) : rdy (mkOf ops o) l = true := by
  obtain ⟨_, o', ho', hall⟩ := mem_ready.1 h
  have : ops[j]? = some o' := by simpa using ho'
  rw [ho] at this; cases this
  refine sub_land fun i hi => ?_
  obtain ⟨e, h1, h2, rfl⟩ := edge_bit hi
  have h3 := edge_back hb ho h1 h2
  have hj := (List.getElem?_eq_some_iff.1 ho).1
  have := hall e h1 h2
  rwa [hr.getD (by omega)] at this
theorem freeU_get {i l : Nat} {x : Mk} : ∀ {r : List Mk} {k j : Nat} {y : Mk}, freeU i x l k r = true → r[j]? = some y → (Nat.beq (k + j) i || Nat.testBit l (k + j) || Nat.testBit y.a i || apartM x y) = true
  | [], k, j, y, _, h => by simp at h
  | z :: r, k, 0, y, hf, h => by simp only [freeU, Bool.and_eq_true] at hf; simp at h; subst h; exact hf.1
  | z :: r, k, j + 1, y, hf, h => by
    simp only [freeU, Bool.and_eq_true] at hf
    have := freeU_get hf.2 (by simpa using h)
    rwa [show k + (j + 1) = k + 1 + j by omega]
theorem free_of {listed : Array Bool} {l i : Nat} {oi : Oper} (hr : Rep ops listed l) (hf : freeU i (mkOf ops oi) l 0 (ops.map (mkOf ops)) = true) :
    ∀ j oj, ops.toArray[j]? = some oj → j ≠ i → listed.getD j true = false → (∀ e ∈ oj.after, Region.binds .any e = true → e.on ≠ i) → oi.apart ops.toArray oj = true := by
  intro j oj hoj hne hun hno
  have hoj : ops[j]? = some oj := by simpa using hoj
  have hj := (List.getElem?_eq_some_iff.1 hoj).1
  have := freeU_get hf (mk_get hoj)
  rw [Nat.zero_add] at this
  simp only [Bool.or_eq_true] at this
  rcases this with ((h | h) | h) | h
  · exact absurd (Nat.eq_of_beq_eq_true h) hne
  · rw [hr.getD hj, h] at hun; cases hun
  · obtain ⟨e, h1, h2, h3⟩ := edge_bit h
    exact absurd h3 (hno e h1 h2)
  · exact apart_of h
theorem covU_get {l acc : Nat} : ∀ {r : List Mk} {k j : Nat} {y : Mk}, covU l acc k r = true → r[j]? = some y → (Nat.testBit acc (k + j) || Nat.testBit l (k + j) || !rdy y l) = true
  | [], k, j, y, _, h => by simp at h
  | z :: r, k, 0, y, hf, h => by simp only [covU, Bool.and_eq_true] at hf; simp at h; subst h; exact hf.1
  | z :: r, k, j + 1, y, hf, h => by
    simp only [covU, Bool.and_eq_true] at hf
    have := covU_get hf.2 (by simpa using h)
    rwa [show k + (j + 1) = k + 1 + j by omega]
theorem cov_of {listed : Array Bool} {l acc : Nat} (hb : backM 0 (ops.map (mkOf ops)) = true) (hr : Rep ops listed l) (hf : covU l acc 0 (ops.map (mkOf ops)) = true) :
    ∀ j ∈ Region.ready .any ops.toArray listed, Nat.testBit acc j = true := by
  intro j hj
  obtain ⟨hun, o, ho, _⟩ := mem_ready.1 hj
  have ho : ops[j]? = some o := by simpa using ho
  have hjl := (List.getElem?_eq_some_iff.1 ho).1
  have := covU_get hf (mk_get ho)
  rw [Nat.zero_add, rdy_of hb hr ho hj] at this
  simp only [Bool.or_eq_true, Bool.not_true, Bool.false_eq_true, or_false] at this
  rcases this with h | h
  · exact h
  · rw [hr.getD hjl, h] at hun; cases hun

/-! #### Who waits for whom -/
theorem anc1_spec {a i : Nat} : ∀ {l : List Nat} {k : Nat}, Nat.testBit (anc1 a k l) i = true → Nat.testBit a i = true ∨ ∃ p x, l[p]? = some x ∧ Nat.testBit a (k + p) = true ∧ Nat.testBit x i = true
  | [], k, h => .inl h
  | x :: r, k, h => by
    simp only [anc1] at h
    split at h
    · rename_i hk
      have h : Nat.testBit (x ||| anc1 a (k + 1) r) i = true := h
      rw [Nat.testBit_or, Bool.or_eq_true] at h
      rcases h with h | h
      · exact .inr ⟨0, x, rfl, hk, h⟩
      · rcases anc1_spec h with h | ⟨p, y, h1, h2, h3⟩
        · exact .inl h
        · exact .inr ⟨p + 1, y, by simpa using h1, by rwa [show k + (p + 1) = k + 1 + p by omega], h3⟩
    · rcases anc1_spec h with h | ⟨p, y, h1, h2, h3⟩
      · exact .inl h
      · exact .inr ⟨p + 1, y, by simpa using h1, by rwa [show k + (p + 1) = k + 1 + p by omega], h3⟩
def AncOK (ms : List Mk) (an : List Nat) : Prop := ∀ j x, an[j]? = some x → ∃ m, ms[j]? = some m ∧ ∀ i, Nat.testBit x i = true → Nat.testBit m.a i = true ∨ ∃ p y, p < j ∧ an[p]? = some y ∧ Nat.testBit m.a p = true ∧ Nat.testBit y i = true
theorem ancs_spec {ms : List Mk} : ∀ (r : List Mk) (acc : List Nat) (pre : List Mk), ms = pre ++ r → acc.length = pre.length → AncOK ms acc → AncOK ms (ancs acc r)
  | [], acc, pre, _, _, h => h
  | m :: r, acc, pre, hm, hl, h => by
    refine ancs_spec r _ (pre ++ [m]) (by simp [hm]) (by simp [hl]) ?_
    intro j x hj
    rcases getElem?_snoc hj with ⟨hlt, hj⟩ | ⟨rfl, rfl⟩
    · obtain ⟨m', h1, h2⟩ := h j x hj
      refine ⟨m', h1, fun i hi => ?_⟩
      rcases h2 i hi with h3 | ⟨p, y, h3, h4, h5⟩
      · exact .inl h3
      · exact .inr ⟨p, y, h3, by rw [List.getElem?_append_left (List.getElem?_eq_some_iff.1 h4).1]; exact h4, h5⟩
    · refine ⟨m, by simp [hm, hl], fun i hi => ?_⟩
      rcases anc1_spec hi with h3 | ⟨p, y, h3, h4, h5⟩
      · exact .inl h3
      · have hp := (List.getElem?_eq_some_iff.1 h3).1
        exact .inr ⟨p, y, hp, by rw [List.getElem?_append_left hp]; exact h3, by rwa [Nat.zero_add] at h4, h5⟩
def waitsW (an : List Nat) (j i : Nat) : Bool := match nth an j with
  | some x => Nat.testBit x i
  | none => false
theorem waits_ok {an : List Nat} (ha : AncOK (ops.map (mkOf ops)) an) : WOK ops.toArray (waitsW an) := by
  intro listed hcl
  have key : ∀ (n j : Nat) (o : Oper) (x i : Nat), j < n → ops[j]? = some o → an[j]? = some x → (∀ e ∈ o.after, Region.binds .any e = true → listed.getD e.on false = true) → Nat.testBit x i = true → listed.getD i false = true := by
    intro n
    induction n with
    | zero => intro j _ _ _ h; omega
    | succ n ih =>
      intro j o x i hj ho hx hall hi
      obtain ⟨m, h1, h2⟩ := ha j x hx
      have h1' := mk_get ho
      rw [h1] at h1'; cases h1'
      rcases h2 i hi with h3 | ⟨p, y, h3, h4, h5, h6⟩
      · obtain ⟨e, g1, g2, rfl⟩ := edge_bit h3
        exact hall e g1 g2
      · obtain ⟨e, g1, g2, rfl⟩ := edge_bit h5
        have hl := hall e g1 g2
        obtain ⟨mp, g3, _⟩ := ha _ y h4
        rw [List.getElem?_map] at g3
        cases hop : ops[e.on]? with
        | none => rw [hop] at g3; cases g3
        | some op => exact ih e.on op y i (by omega) hop h4 (fun e' g4 g5 => hcl e.on op (by simpa using hop) hl e' g4 g5) h6
  intro j hj i hw
  obtain ⟨_, o, ho, hall⟩ := mem_ready.1 hj
  unfold waitsW at hw
  split at hw
  · rename_i x hx
    rw [nth_eq] at hx
    exact key (j + 1) j o x i (by omega) (by simpa using ho) hx hall hw
  · cases hw
end masks

/-! #### The loads that were made ahead -/
def XL (P : Program) (m : Sem Next) (v : Value) : World → Prop := fun w => ∀ w', Fr [] w w' → m.run P w' = .ok (.value v) w'
theorem XL.mono {m : Sem Next} {v : Value} {w w' : World} (h : XL P m v w) (hf : Fr [] w w') : XL P m v w' := fun w'' h' => h w'' (hf.call h' (by simp))
def Lk (P : Program) (ops : List Oper) (a : Act) (tm : Nat) : List TL → List (Nat × (World → Prop)) → Prop
  | [], Ts => Ts = []
  | (i, t, x, d) :: r, Ts => ∃ m v oi Ts', Ts = (i, XL P m v) :: Ts' ∧ oi.op = .load t x ∧ oi.dst = some d ∧ (execOp a.eval oi = m ∧ a.tmps.getD d undef = v) ∧
      (∀ b, (b ∈ oi.looksAt ops.toArray ∨ b = d) → Nat.testBit tm b = true) ∧ Lk P ops a tm r Ts'
theorem Lk.monoT {ops : List Oper} {a : Act} {tm : Nat} : ∀ {T : List TL} {Ts : List (Nat × (World → Prop))}, Lk P ops a tm T Ts → MonoT Ts
  | [], Ts, h => by
    have h : Ts = [] := h
    subst h; intro x hx; cases hx
  | (i, t, x, d) :: r, Ts, h => by
    obtain ⟨m, v, oi, Ts', rfl, _, _, _, _, h8⟩ := h
    intro y hy
    rcases List.mem_cons.1 hy with rfl | hy
    · exact fun w w' h h' => XL.mono h h'
    · exact h8.monoT y hy
theorem Lk.put {ops : List Oper} (hs : ∀ (j : Nat) (o : Oper) cs b, ops[j]? = some o → o.op ≠ .select cs b) {a : Act} {tm : Nat} {dst : Option Nat} {u : Value} (hd : ∀ e, dst = some e → Nat.testBit tm e = false) : ∀ {T : List TL} {Ts : List (Nat × (World → Prop))}, Lk P ops a tm T Ts → Lk P ops (a.put dst u) tm T Ts
  | [], _, h => h
  | (i, t, x, d) :: r, Ts, h => by
    obtain ⟨m, v, oi, Ts', h1, h3, h4, ⟨h5, h6⟩, h7, h8⟩ := h
    refine ⟨m, v, oi, Ts', h1, h3, h4, ⟨?_, ?_⟩, h7, h8.put hs hd⟩
    · rw [execOp_put (ops := ops.toArray) oi (fun cs b => by rw [h3]; simp) a dst u fun e he hx => ?_]
      · exact h5
      · have := h7 e (.inl hx)
        rw [hd e he] at this; cases this
    · rw [put_getD]
      · exact h6
      · intro he
        have := h7 d (.inr rfl)
        rw [hd d he] at this; cases this
theorem Lk.mono {ops : List Oper} {a : Act} {tm tm' : Nat} (ht : ∀ b, Nat.testBit tm b = true → Nat.testBit tm' b = true) : ∀ {T : List TL} {Ts : List (Nat × (World → Prop))}, Lk P ops a tm T Ts → Lk P ops a tm' T Ts
  | [], _, h => h
  | (i, t, x, d) :: r, Ts, h => by
    obtain ⟨m, v, oi, Ts', h1, h3, h4, h5, h7, h8⟩ := h
    exact ⟨m, v, oi, Ts', h1, h3, h4, h5, fun b hb => ht b (h7 b hb), h8.mono ht⟩
theorem Lk.nx {ops : List Oper} {an : List Nat} {q : Nat → Bool} {j : Nat} (hq : q j = false) {a : Act} {tm : Nat} : ∀ {T : List TL} {Ts : List (Nat × (World → Prop))}, Lk P ops a tm T Ts → Lk P ops a tm (nxT (nth an j) T) (nx q (waitsW an) j Ts)
  | [], Ts, h => by
    have h : Ts = [] := h
    subst h; simp [nxT, Sx.nx, hq, Lk]
  | (i, t, x, d) :: r, Ts, h => by
    obtain ⟨m, v, oi, Ts', rfl, h3, h4, h5, h7, h8⟩ := h
    have ih := h8.nx (an := an) hq (j := j)
    simp only [Sx.nx, hq] at ih ⊢
    unfold nxT
    cases hj : nth an j with
    | none =>
      rw [hj] at ih
      have e : waitsW an j i = false := by simp [waitsW, hj]
      simp only [List.filter_cons, e]
      exact ⟨m, v, oi, _, rfl, h3, h4, h5, h7, ih⟩
    | some y =>
      rw [hj] at ih
      cases hb : Nat.testBit y i with
      | true =>
        have e : waitsW an j i = true := by simp [waitsW, hj, hb]
        simp only [hb, List.filter_cons, e]
        exact ih
      | false =>
        have e : waitsW an j i = false := by simp [waitsW, hj, hb]
        simp only [hb, List.filter_cons, e]
        exact ⟨m, v, oi, _, rfl, h3, h4, h5, h7, ih⟩

theorem chkY_sound {t : TypeId} {x : Operand} {d : Nat} {st : St} {C : Prop} {a : Act} {w : World} (h0 : SOK ds B ρ0 σ0 st a w) (h : chkY P t x d st C) :
    C ∧ ∀ (o : Oper), o.op = .load t x → XL P (execOp a.eval o) (a.tmps.getD d undef) w := by
  obtain ⟨ρ, σ, hE, hT, _, _⟩ := h0
  unfold chkY at h
  split at h
  · rename_i p s hx hs
    have hr := evo_sound hE hx
    obtain ⟨s', v, ad, hp, hd, hv, hrun⟩ := loadP_sound (P := P) hT hr h
    obtain ⟨hC, hdet⟩ := detK_sound hd
    refine ⟨hC, fun o ho w' hw' => ?_⟩
    have he := hdet _ _ _ _ _ (hE.get _ _ hs) hv
    simp [execOp, ho, Instr.loadAt, hp, Instr.sureAddr, hrun w' hw', he]
  · exact h.elim
theorem chkT_sound {ops : List Oper} {st : St} {a : Act} {w : World} {tm : Nat} {C : Prop} (h0 : SOK ds B ρ0 σ0 st a w) : ∀ {T : List TL} {Ts : List (Nat × (World → Prop))}, Lk P ops a tm T Ts → chkT P T st C → C ∧ ∀ x ∈ Ts, x.2 w
  | [], Ts, hl, h => by
    have hl : Ts = [] := hl
    subst hl; exact ⟨h, by simp⟩
  | (i, t, x, d) :: r, Ts, hl, h => by
    obtain ⟨m, v, oi, Ts', rfl, h3, h4, ⟨h5, h6⟩, h7, h8⟩ := hl
    simp only [chkT] at h
    obtain ⟨h, hx⟩ := chkY_sound h0 h
    obtain ⟨hC, hr⟩ := chkT_sound h0 h8 h
    refine ⟨hC, fun y hy => ?_⟩
    rcases List.mem_cons.1 hy with rfl | hy
    · have := hx oi h3
      rw [h5, h6] at this; exact this
    · exact hr y hy

theorem dst_free {ops : List Oper} {o : Oper} {tm : Nat} (h : Nat.beq (Nat.land (mkOf ops o).d tm) 0 = true) : ∀ e, o.dst = some e → Nat.testBit tm e = false := by
  intro e he
  refine land_bit (a := (mkOf ops o).d) h ?_
  simp [mkOf, he]
theorem nthM {ops : List Oper} {i : Nat} {o : Oper} {m : Mk} (ho : nth ops i = some o) (hm : nth (ops.map (mkOf ops)) i = some m) : ops[i]? = some o ∧ m = mkOf ops o := by
  rw [nth_eq] at ho hm
  rw [mk_get ho] at hm
  exact ⟨ho, (Option.some.inj hm).symm⟩

theorem wpAnyT_done {ops : Array Oper} {Q : Exit → Act → World → Prop} {q : Nat → Bool} {W : Nat → Nat → Bool} {listed : Array Bool} {a : Act} {w : World} (hr : Region.ready .any ops listed = []) (h : ∀ w1, Fr [] w w1 → Q .normal a w1) (T : List (Nat × (World → Prop))) : ∀ f, wpAnyT P ops Q q W f T listed a w
  | 0 => fun w1 hw1 => ⟨hr, h w1 hw1⟩
  | f + 1 => fun w1 hw1 => ⟨fun _ => h w1 hw1, by rw [hr]; simp⟩
theorem vg_sound {ops : List Oper} {Q : Exit → Act → World → Prop} {K : St → Prop} {fl : Nat} {an : List Nat} (hS : SpecsOK P S) (hs : Region.noSelect ops.toArray = true) (hb : backM 0 (ops.map (mkOf ops)) = true) (ha : AncOK (ops.map (mkOf ops)) an)
    (hp : ∀ c a w, ¬ Q (.panic c) a w) (hQ : ∀ st a w, K st → SOK ds B ρ0 σ0 st a w → Q .normal a w) :
    ∀ (pl : Sp) (f : Nat), pl.depth ≤ f → ∀ (T : List TL) (Ts : List (Nat × (World → Prop))) (l tm acc : Nat) (listed : Array Bool) (st : St) (a : Act) (w : World),
      okPlan ops (ops.map (mkOf ops)) ops.length fl pl l tm acc = true → Rep ops listed l → Closed ops.toArray listed → Lk P ops a tm T Ts → (∀ x ∈ Ts, x.2 w) →
      SOK ds B ρ0 σ0 st a w → vg P S ops an pl T st K →
      (acc = 0 → wpAnyT P ops.toArray Q (Nat.testBit fl) (waitsW an) f Ts listed a w) ∧
      (pl.isB = true → ∀ f', f = f' + 1 → ∀ w1, Fr [] w w1 → ∀ j ∈ Region.ready .any ops.toArray listed, Nat.testBit acc j = false →
        wpOp P ops.toArray Q j (fun a' w' => ((∀ x ∈ nx (Nat.testBit fl) (waitsW an) j Ts, x.2 w') ∧ GOK [] w') ∧ wpAnyT P ops.toArray Q (Nat.testBit fl) (waitsW an) f' (nx (Nat.testBit fl) (waitsW an) j Ts) (listed.setIfInBounds j true) a' w') a w1) := by
  have hsel := Region.noSelect_spec hs
  have hselL : ∀ (j : Nat) (o : Oper) cs b, ops[j]? = some o → o.op ≠ .select cs b := fun j o cs b h => hsel j o cs b (by simpa using h)
  intro pl
  induction pl with
  | z =>
    intro f _ T Ts l tm acc listed st a w hok hr hcl hlk hTs h0 h
    simp only [okPlan, Bool.and_eq_true] at hok
    simp only [vg] at h
    refine ⟨fun _ => wpAnyT_done ?_ (fun w1 hw1 => ?_) _ f, fun hb => by cases hb⟩
    · apply List.eq_nil_iff_forall_not_mem.2
      intro j hj
      have := cov_of hb hr hok.2 j hj
      simp at this
    · obtain ⟨ρ, σ, hE, hT, hn, hag⟩ := h0
      exact hQ _ _ _ h ⟨ρ, σ, hE, hT.still hw1, hn, hag⟩
  | e =>
    intro f _ T Ts l tm acc listed st a w hok hr hcl hlk hTs h0 h
    simp only [okPlan, Bool.and_eq_true, Bool.not_eq_true'] at hok
    refine ⟨fun hz => ?_, fun _ f' _ w1 hw1 j hj hjacc => ?_⟩
    · subst hz; cases hok.1
    · have := cov_of hb hr hok.2 j hj
      rw [hjacc] at this; cases this
  | p i r ih =>
    intro f hf T Ts l tm acc listed st a w hok hr hcl hlk hTs h0 h
    obtain ⟨f, rfl⟩ : ∃ g, f = g + 1 := ⟨f - 1, by simp only [Sp.depth] at hf; omega⟩
    have hf : r.depth ≤ f := by simp only [Sp.depth] at hf; omega
    refine ⟨fun _ => ?_, fun hb => by cases hb⟩
    simp only [okPlan] at hok
    split at hok
    case h_2 => cases hok
    rename_i o m ho hm
    obtain ⟨ho', rfl⟩ := nthM ho hm
    simp only [Bool.and_eq_true, Bool.not_eq_true'] at hok
    obtain ⟨⟨_, h1, h2, h4, h5, h6⟩, hok⟩ := hok
    have hil : i < ops.length := (List.getElem?_eq_some_iff.1 ho').1
    have hoA : ops.toArray[i]? = some o := by simpa using ho'
    have hrd := ready_of hb hr ho' h1 h2
    simp only [vg, ho] at h
    obtain ⟨ρ, σ, hE, hT, hn, hag⟩ := h0
    have hG := hT.gNow
    have take : ∀ v env', YieldsQ P ops.toArray o v a → vg P S ops an r T { st with env := env' } K → EOK ds st.tbl.length ρ σ env' st.nt (a.put o.dst v) → wpAnyT P ops.toArray Q (Nat.testBit fl) (waitsW an) (f + 1) Ts listed a w := fun v env' hy h hE' =>
      wpAnyT_take hoA hsel (fun c a w h => absurd h (hp _ _ _)) h6 _ _ _ _ _ (free_of hr h5) hrd hy (hlk.monoT) hTs hG
        ((ih f hf T Ts _ tm 0 _ { st with env := env' } _ w hok (hr.set hil) (hcl.set hrd) (hlk.put hselL (dst_free h4)) hTs ⟨ρ, σ, hE', hT, hn, hag⟩ h).1 rfl)
    obtain ⟨env1, hE1, ⟨hw, h⟩ | ⟨hw, h⟩⟩ := gd_sound hE h
    · obtain ⟨s, v, h, hv, hrun⟩ := pureG_sound hE1 hS h
      obtain ⟨env2, h, hE2⟩ := putE_sound hE1 hv h
      exact take v env2 (.inl ⟨hw, hrun⟩) h hE2
    · obtain ⟨env2, h, hE2⟩ := putE_sound hE1 (s := .v undef) (v := undef) (by simp [Rel]) h
      exact take undef env2 (.inr ⟨hw, rfl⟩) h hE2
  | l i r ih =>
    intro f hf T Ts l tm acc listed st a w hok hr hcl hlk hTs h0 h
    obtain ⟨f, rfl⟩ : ∃ g, f = g + 1 := ⟨f - 1, by simp only [Sp.depth] at hf; omega⟩
    have hf : r.depth ≤ f := by simp only [Sp.depth] at hf; omega
    refine ⟨fun _ => ?_, fun hb => by cases hb⟩
    simp only [okPlan] at hok
    split at hok
    case h_2 => cases hok
    rename_i o m ho hm
    obtain ⟨ho', rfl⟩ := nthM ho hm
    simp only [Bool.and_eq_true, Bool.not_eq_true'] at hok
    obtain ⟨⟨_, h1, h2, h3, h4, h5, h6⟩, hok⟩ := hok
    have hil : i < ops.length := (List.getElem?_eq_some_iff.1 ho').1
    have hoA : ops.toArray[i]? = some o := by simpa using ho'
    have hrd := ready_of hb hr ho' h1 h2
    simp only [vg, ho] at h
    unfold isLd at h3
    split at h3
    case h_2 => cases h3
    rename_i t x d hop hd
    obtain ⟨ρ, σ, hE0, hT, hn, hag⟩ := h0
    have hG := hT.gNow
    obtain ⟨env1, hE, ⟨hw, h⟩ | ⟨hw, h⟩⟩ := gd_sound hE0 h
    case inr =>
      obtain ⟨env2, h, hE2⟩ := putE_sound hE (s := .v undef) (v := undef) (by simp [Rel]) h
      exact wpAnyT_take hoA hsel (fun c a w h => absurd h (hp _ _ _)) h6 _ _ _ _ _ (free_of hr h5) hrd (.inr ⟨hw, rfl⟩) hlk.monoT hTs hG
        ((ih f hf T Ts _ _ 0 _ { st with env := env2 } _ w hok (hr.set hil) (hcl.set hrd) (Lk.mono (fun b hb => by
          show Nat.testBit (tm ||| ((mkOf ops o).r ||| (mkOf ops o).d)) b = true
          rw [Nat.testBit_or, hb]; rfl) (hlk.put hselL (dst_free h4))) hTs ⟨ρ, σ, hE2, hT, hn, hag⟩ h).1 rfl)
    rw [hop, hd] at h
    simp only at h
    split at h
    case h_2 => exact h.elim
    rename_i p hx
    have hrx := evo_sound hE hx
    obtain ⟨s, v, ad, hpv, h, hrel, hrun⟩ := loadP_sound (P := P) hT hrx h
    have hdlt : d < a.tmps.size := by rw [hE.size]; exact putE_lt h
    obtain ⟨env', h, hE'⟩ := putE_sound (dst := some d) hE hrel h
    have hX : XL P (execOp a.eval o) v w := fun w' hw' => by
      simp [execOp, hop, Instr.loadAt, hpv, Instr.sureAddr, hrun w' hw']
    refine wpAnyT_track (v := v) (m := execOp a.eval o) (X := XL P (execOp a.eval o) v) hoA hsel (fun c a w h => absurd h (hp _ _ _)) (waits_ok ha) h6 (fun w h => h w (Fr.refl _ _)) (fun w w' h h' => XL.mono h h') _ _ _ _ _ hcl (free_of hr h5) hrd ⟨rfl, hw⟩ hX hlk.monoT hTs hG ?_
    rw [hd]
    refine (ih f hf _ _ _ _ 0 _ { st with env := env' } _ w hok (hr.set hil) (hcl.set hrd) ?_ ?_ ⟨ρ, σ, hE', hT, hn, hag⟩ h).1 rfl
    · refine ⟨execOp a.eval o, v, o, Ts, rfl, hop, hd, ⟨?_, ?_⟩, fun b hb => ?_, ?_⟩
      · simp [execOp, hop, eval_put_ne h3]
      · simp [Act.put, hdlt]
      · show Nat.testBit (tm ||| ((mkOf ops o).r ||| (mkOf ops o).d)) b = true
        rw [Nat.testBit_or, Nat.testBit_or, Bool.or_eq_true, Bool.or_eq_true]
        right
        rcases hb with hb | rfl
        · left; exact (testBit_bitsOf _ _).2 hb
        · right; simp [mkOf, hd]
      · refine Lk.mono (fun b hb => ?_) (hd ▸ hlk.put hselL (u := v) (dst_free h4))
        show Nat.testBit (tm ||| ((mkOf ops o).r ||| (mkOf ops o).d)) b = true
        rw [Nat.testBit_or, hb]; rfl
    · intro y hy
      rcases List.mem_cons.1 hy with rfl | hy
      · exact hX
      · exact hTs y hy
  | b i r nb ih ihn =>
    intro f hf T Ts l tm acc listed st a w hok hr hcl hlk hTs h0 h
    simp only [okPlan] at hok
    split at hok
    case h_2 => cases hok
    rename_i o m ho hm
    obtain ⟨ho', rfl⟩ := nthM ho hm
    simp only [Bool.and_eq_true, Bool.not_eq_true'] at hok
    obtain ⟨⟨h1, h2, h4, h6, hnb⟩, hok, hokn⟩ := hok
    have hil : i < ops.length := (List.getElem?_eq_some_iff.1 ho').1
    have hoA : ops.toArray[i]? = some o := by simpa using ho'
    have hrd := ready_of hb hr ho' h1 h2
    simp only [Sp.depth] at hf
    have hf0 : r.depth + 1 ≤ f := Nat.le_trans (Nat.le_max_left _ _) hf
    have hfn : nb.depth ≤ f := Nat.le_trans (Nat.le_max_right _ _) hf
    have hfr : ∀ f', f = f' + 1 → r.depth ≤ f' := fun f' e => by omega
    have hf1 : 1 ≤ f := by omega
    simp only [vg] at h
    obtain ⟨h, hnext⟩ := andE_iff h
    -- the others
    have hother : ∀ f', f = f' + 1 → ∀ w1, Fr [] w w1 → ∀ j ∈ Region.ready .any ops.toArray listed, Nat.testBit (Nat.lor acc (2 ^ i)) j = false →
        wpOp P ops.toArray Q j (fun a' w' => ((∀ x ∈ nx (Nat.testBit fl) (waitsW an) j Ts, x.2 w') ∧ GOK [] w') ∧ wpAnyT P ops.toArray Q (Nat.testBit fl) (waitsW an) f' (nx (Nat.testBit fl) (waitsW an) j Ts) (listed.setIfInBounds j true) a' w') a w1 := by
      cases he : nb.isE with
      | false => exact fun f' hff w1 hw1 j hj hacc => (ihn f hfn T Ts l tm _ listed st a w hokn hr hcl hlk hTs h0 (hnext he)).2 hnb f' hff w1 hw1 j hj hacc
      | true =>
        intro f' hff w1 hw1 j hj hacc
        cases nb <;> simp only [Sp.isE] at he <;> try cases he
        simp only [okPlan, Bool.and_eq_true] at hokn
        have := cov_of hb hr hokn.2 j hj
        rw [hacc] at this; cases this
    have hall : ∀ f', f = f' + 1 → ∀ w1, Fr [] w w1 → ∀ j ∈ Region.ready .any ops.toArray listed, Nat.testBit acc j = false →
        wpOp P ops.toArray Q j (fun a' w' => ((∀ x ∈ nx (Nat.testBit fl) (waitsW an) j Ts, x.2 w') ∧ GOK [] w') ∧ wpAnyT P ops.toArray Q (Nat.testBit fl) (waitsW an) f' (nx (Nat.testBit fl) (waitsW an) j Ts) (listed.setIfInBounds j true) a' w') a w1 := by
      intro f' hff w1 hw1 j hj hacc
      by_cases hji : j = i
      case neg =>
        refine hother f' hff w1 hw1 j hj ?_
        show Nat.testBit (acc ||| 2 ^ i) j = false
        rw [Nat.testBit_or, hacc, Nat.testBit_two_pow]
        simp; exact fun e => hji e.symm
      subst hji
      have hf := hfr f' hff
      clear hother hnext ihn
      simp only [ho] at h
      obtain ⟨ρ, σ, hE, hT0, hn, hag⟩ := h0
      have hT := hT0.still hw1
      have hTs := fun x hx => hlk.monoT x hx _ _ (hTs x hx) hw1
      clear hT0
      clear hw1
      generalize w1 = w at *
      have hlk' := hlk.nx (an := an) (q := Nat.testBit fl) h6
      have hX' : ∀ {w'}, Fr [] w w' → ∀ x ∈ nx (Nat.testBit fl) (waitsW an) j Ts, x.2 w' := by
        intro w' hw' x hx
        have hx1 := nx_of x hx
        have hx2 := hTs x hx1
        have gen : ∀ {T : List TL} {Ts : List (Nat × (World → Prop))}, Lk P ops a tm T Ts → x ∈ Ts → ∃ m v, x.2 = XL P m v := by
          intro T
          induction T with
          | nil => intro Ts h hx; have h : Ts = [] := h; subst h; cases hx
          | cons y T ih =>
            intro Ts h hx
            obtain ⟨m, v, oi, Ts', rfl, _, _, _, _, h8⟩ := h
            rcases List.mem_cons.1 hx with rfl | hx
            · exact ⟨m, v, rfl⟩
            · exact ih h8 hx
        obtain ⟨m, v, e⟩ := gen hlk hx1
        rw [e] at hx2 ⊢
        exact hx2.mono hw'
      unfold wpOp
      rw [hoA]
      obtain ⟨env1, hE1, ⟨hw, h⟩ | ⟨hw, h⟩⟩ := gd_sound hE h
      · simp only [hw, if_true]
        left
        split at h
        · obtain ⟨s, v, h, hv, hy⟩ := qop_sound (P := P) hE1 hT hS h
          refine Oper.wp_of_quiet (C := Fr [] w) (K := fun a' => a' = a.put o.dst v) (Fr.refl _ _) (fun a' w' hw' ha' => ?_) ⟨v, hy, rfl⟩
          subst ha'
          obtain ⟨env2, h, hE2⟩ := putE_sound hE1 hv h
          exact ⟨⟨hX' hw', hT.gNow.mono hw'⟩, (ih f' hf _ _ _ tm 0 _ { st with env := env2 } _ w' hok (hr.set hil) (hcl.set hrd) (hlk'.put hselL (dst_free h4)) (hX' hw') ⟨ρ, σ, hE2, hT.still hw', hn, hag⟩ h).1 rfl⟩
        · split at h
          · rename_i hgr
            refine Oper.wp_mono (fun a' w' hp => ?_) (eop_sound (P := P) (st := { st with env := env1 }) (Q := Q) hE1 hT h)
            obtain ⟨s, v, tbl', ρ', σ', rfl, h, hv, hle, hag', hT', hfr⟩ := hp
            have hfr := hfr hgr
            obtain ⟨env2, h, hE2⟩ := putE_sound (hE1.ext hle hag') hv h
            refine ⟨⟨hX' hfr, hT.gNow.mono hfr⟩, (ih f' hf _ _ _ tm 0 _ { st with env := env2, tbl := tbl' } _ w' hok (hr.set hil) (hcl.set hrd) (hlk'.put hselL (dst_free h4)) (hX' hfr) ⟨ρ', σ', hE2, hT', ⟨Nat.le_trans hn.1 hle, hn.2⟩, fun i hi hm => ?_⟩ h).1 rfl⟩
            have h1 := hag' i (by have : i < st.n0 := hi; have := hn.1; show i < st.tbl.length; omega)
            have h2 := hag i hi hm
            exact ⟨h1.1.trans h2.1, h1.2.trans h2.2⟩
          refine Oper.wp_mono (fun a' w' hp => ?_) (mop_sound (Q := Q) hS (st := { st with env := env1 }) ⟨ρ, σ, hE1, hT, hn, hag⟩ h)
          obtain ⟨s, st', v, ρ', σ', h, rfl, hE', hv, hT', hn', hag'⟩ := hp
          obtain ⟨h, hX2⟩ := chkT_sound (st := st') ⟨ρ', σ', hE', hT', hn', hag'⟩ hlk' h
          obtain ⟨env2, h, hE2⟩ := putE_sound hE' hv h
          exact ⟨⟨hX2, hT'.gNow⟩, (ih f' hf _ _ _ tm 0 _ { st' with env := env2 } _ w' hok (hr.set hil) (hcl.set hrd) (hlk'.put hselL (dst_free h4)) hX2 ⟨ρ', σ', hE2, hT', hn', hag'⟩ h).1 rfl⟩
      · simp only [hw]
        obtain ⟨env2, h, hE2⟩ := putE_sound hE1 (s := .v undef) (v := undef) (by simp [Rel]) h
        exact ⟨⟨hX' (Fr.refl _ _), hT.gNow⟩, (ih f' hf _ _ _ tm 0 _ { st with env := env2 } _ w hok (hr.set hil) (hcl.set hrd) (hlk'.put hselL (dst_free h4)) (hX' (Fr.refl _ _)) ⟨ρ, σ, hE2, hT, hn, hag⟩ h).1 rfl⟩

    refine ⟨fun hz => ?_, fun _ => hall⟩
    subst hz
    obtain ⟨f', rfl⟩ : ∃ g, f = g + 1 := ⟨f - 1, by omega⟩
    exact fun w1 hw1 => ⟨fun hh => (by rw [hh] at hrd; cases hrd), fun j hj => hall f' rfl w1 hw1 j hj (by simp)⟩

theorem wpAny_of_plan {ops : List Oper} {Q : Exit → Act → World → Prop} {K : St → Prop} {pl : Sp} (hS : SpecsOK P S) (hok : fastG ops (ops.map (mkOf ops)) pl = true)
    (hp : ∀ c a w, ¬ Q (.panic c) a w) (hQ : ∀ st a w, K st → SOK ds B ρ0 σ0 st a w → Q .normal a w) {st : St} {a : Act} {w : World} (h0 : SOK ds B ρ0 σ0 st a w)
    (h : vg P S ops (ancs [] (ops.map (mkOf ops))) pl [] st K) : wpAny P .any ops.toArray Q ops.length (Array.replicate ops.length false) a w := by
  simp only [fastG, Bool.and_eq_true] at hok
  obtain ⟨h1, h2, h3, h4⟩ := hok
  have h3 := Nat.le_of_ble_eq_true h3
  have ha : AncOK (ops.map (mkOf ops)) (ancs [] (ops.map (mkOf ops))) := ancs_spec _ [] [] rfl rfl (fun j x h => by simp at h)
  have := (vg_sound (Q := Q) hS (noSelect_fast h1) h2 ha hp hQ pl ops.length h3 [] [] 0 0 0 _ st a w h4 Rep.zero (Closed.none _) rfl (by simp) h0 h).1 rfl
  exact wpAny_of_T _ _ _ _ _ this
end
end Go.Proofs.YtmnenigmkfnciaaGreatDoor.Sx
