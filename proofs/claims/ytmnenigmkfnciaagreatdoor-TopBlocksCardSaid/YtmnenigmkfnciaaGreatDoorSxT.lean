/- The walk by computation: a load that floats among calls. No condition. -/
import Derived.Test.YtmnenigmkfnciaaGreatDoorSx10
import Derived.Orders
namespace Go.Proofs.YtmnenigmkfnciaaGreatDoor.Sx
open Go
variable {ds : List Deferred}

section sem
variable {P : Program} {ops : Array Oper} {Q : Exit → Act → World → Prop}
/-- As 'wpAny'; until an operation that waits for i the world is asked for X. -/
def wpAnyX (P : Program) (ops : Array Oper) (Q : Exit → Act → World → Prop) (i : Nat) (X : World → Prop) : Nat → Array Bool → Act → World → Prop
  | 0, listed, a, w => Region.ready .any ops listed = [] ∧ Q .normal a w
  | fuel + 1, listed, a, w =>
    (Region.ready .any ops listed = [] → Q .normal a w) ∧
    ∀ j ∈ Region.ready .any ops listed, ∀ oj, ops[j]? = some oj →
      if oj.after.toList.any (fun e => Region.binds .any e && Nat.beq e.on i) = true then wpOp P ops Q j (wpAny P .any ops Q fuel (listed.setIfInBounds j true)) a w
      else wpOp P ops Q j (fun a' w' => X w' ∧ wpAnyX P ops Q i X fuel (listed.setIfInBounds j true) a' w') a w

theorem wpOp_putE {j : Nat} {oi oj : Oper} {v : Value} (hj : ops[j]? = some oj) (hap : oi.apart ops oj = true)
    (hsi : ∀ cs b, oi.op ≠ .select cs b) (hsj : ∀ cs b, oj.op ≠ .select cs b)
    (hQ : ∀ c a w, Q (.panic c) (a.put oi.dst v) w → Q (.panic c) a w) {K : Act → World → Prop} {a : Act} {w : World}
    (h : wpOp P ops Q j K (a.put oi.dst v) w) :
    wpOp P ops Q j (fun a' w' => (execOp a'.eval oi = execOp a.eval oi ∧ Region.wanted oi (yielded ops a'.tmps) = Region.wanted oi (yielded ops a.tmps)) ∧ K (a'.put oi.dst v) w') a w := by
  obtain ⟨h1, h2, h3⟩ := Oper.apart_spec hap
  have keep : ∀ u, execOp (a.put oj.dst u).eval oi = execOp a.eval oi ∧ Region.wanted oi (yielded ops (a.put oj.dst u).tmps) = Region.wanted oi (yielded ops a.tmps) := fun u =>
    ⟨execOp_put oi hsi a oj.dst u h3, wanted_put oi a oj.dst u h3⟩
  unfold wpOp at *
  simp only [hj] at *
  rw [wanted_put oj a oi.dst v h1] at h
  split
  · rename_i hw
    simp only [hw, if_true] at h
    rcases h with h | ⟨hasks, hlets⟩
    case inr => exact .inr ⟨by unfold Oper.asks at *; rw [execOp_put oj hsj a oi.dst v h1] at hasks; exact hasks, hlets⟩
    refine .inl ?_
    unfold Oper.wp at *
    rw [execOp_put oj hsj a oi.dst v h1] at h
    generalize (execOp a.eval oj).run P w = r at *
    cases r with
    | ok n w' =>
      cases n <;> simp only [Oper.upon] at h ⊢
      case value u => exact ⟨keep u, by rw [← Act.put_comm a v u h2]; exact h⟩
      case skip => exact ⟨keep _, by rw [← Act.put_comm a v undef h2]; exact h⟩
      case defer d =>
        refine ⟨⟨execOp_put oi hsi { a with defers := d :: a.defers } oj.dst undef h3, wanted_put oi { a with defers := d :: a.defers } oj.dst undef h3⟩, ?_⟩
        rw [← Act.put_comm _ v undef h2, ← Act.put_defers]
        exact h
      case enter f args =>
        refine Calls.mono h fun e w'' he => ?_
        cases e with
        | returned u => exact ⟨keep u, by rw [← Act.put_comm a v u h2]; exact he⟩
        | panicked c => exact hQ _ _ _ he
        | outgrown => exact he
      case row row args => exact Rows.mono h fun u w'' he => ⟨keep u, by rw [← Act.put_comm a v u h2]; exact he⟩
    | halt x w' =>
      cases x <;> simp only [Oper.upon] at h ⊢
      case panic u => exact hQ _ _ _ h
  · rename_i hw
    simp only [hw] at h
    exact ⟨keep _, by rw [← Act.put_comm a v undef h2]; exact h⟩

theorem put_getD {a : Act} {dst : Option Tmp} {u : Value} {d : Nat} (h : dst ≠ some d) : (a.put dst u).tmps.getD d undef = a.tmps.getD d undef := by
  cases dst with
  | none => rfl
  | some e =>
    have : e ≠ d := fun he => h (by rw [he])
    simp [Act.put, Array.getElem?_setIfInBounds_ne this]

theorem wpOp_link {j d : Nat} {oi oj : Oper} (hj : ops[j]? = some oj) (hap : oi.apart ops oj = true) (hd : oi.dst = some d)
    (hsi : ∀ cs b, oi.op ≠ .select cs b) {K : Act → World → Prop} {a : Act} {w : World} (h : wpOp P ops Q j K a w) :
    wpOp P ops Q j (fun a' w' => (execOp a'.eval oi = execOp a.eval oi ∧ a'.tmps.getD d undef = a.tmps.getD d undef) ∧ K a' w') a w := by
  obtain ⟨_, h2, h3⟩ := Oper.apart_spec hap
  have keep : ∀ u, execOp (a.put oj.dst u).eval oi = execOp a.eval oi ∧ (a.put oj.dst u).tmps.getD d undef = a.tmps.getD d undef := fun u =>
    ⟨execOp_put oi hsi a oj.dst u h3, put_getD (h2 d hd)⟩
  unfold wpOp at *
  simp only [hj] at *
  split
  · rename_i hw
    simp only [hw, if_true] at h
    rcases h with h | h
    case inr => exact .inr h
    refine .inl ?_
    unfold Oper.wp at *
    generalize (execOp a.eval oj).run P w = r at *
    cases r with
    | ok n w' =>
      cases n <;> simp only [Oper.upon] at h ⊢
      case value u => exact ⟨keep u, h⟩
      case skip => exact ⟨keep _, h⟩
      case defer x => exact ⟨⟨execOp_put oi hsi { a with defers := x :: a.defers } oj.dst undef h3, put_getD (a := { a with defers := x :: a.defers }) (h2 d hd)⟩, h⟩
      case enter f args =>
        refine Calls.mono h fun e w'' he => ?_
        cases e with
        | returned u => exact ⟨keep u, he⟩
        | panicked c => exact he
        | outgrown => exact he
      case row row args => exact Rows.mono h fun u w'' he => ⟨keep u, he⟩
    | halt x w' =>
      cases x <;> simp only [Oper.upon] at h ⊢
      case panic u => exact h
  · rename_i hw
    simp only [hw] at h
    exact ⟨keep _, h⟩

theorem wpAny_track {i : Nat} {oi : Oper} {v : Value} {m : Sem Next} (hi : ops[i]? = some oi) (hsel : ∀ (j : Nat) (o : Oper) cs b, ops[j]? = some o → o.op ≠ .select cs b)
    (hQ : ∀ c a w, Q (.panic c) (a.put oi.dst v) w → Q (.panic c) a w) :
    ∀ (fuel : Nat) (listed : Array Bool) (a : Act) (w : World),
      (∀ j oj, ops[j]? = some oj → j ≠ i → listed.getD j true = false → (∀ e ∈ oj.after, Region.binds .any e = true → e.on ≠ i) → oi.apart ops oj = true) →
      i ∈ Region.ready .any ops listed → (execOp a.eval oi = m ∧ Region.wanted oi (yielded ops a.tmps) = true) → m.run P w = .ok (.value v) w →
      wpAnyX P ops Q i (fun w => m.run P w = .ok (.value v) w) fuel (listed.setIfInBounds i true) (a.put oi.dst v) w → wpAny P .any ops Q (fuel + 1) listed a w := by
  have now : ∀ (a : Act) (w : World) (K : Act → World → Prop), (execOp a.eval oi = m ∧ Region.wanted oi (yielded ops a.tmps) = true) → m.run P w = .ok (.value v) w → K (a.put oi.dst v) w → wpOp P ops Q i K a w := by
    rintro a w K ⟨e1, e2⟩ hr hk
    unfold Go.wpOp
    simp only [hi, e2, if_true, Oper.wp, e1, hr, Oper.upon]
    exact .inl hk
  intro fuel
  induction fuel with
  | zero =>
    intro listed a w _ hr hE hX H
    refine ⟨fun h => (by rw [h] at hr; cases hr), fun j hj => ?_⟩
    by_cases hji : j = i
    · subst hji; exact now _ _ _ hE hX H
    · have := ready_mono hj hji
      rw [H.1] at this
      cases this
  | succ fuel ih =>
    intro listed a w hfree hr hE hX H
    refine ⟨fun h => (by rw [h] at hr; cases hr), fun j hj => ?_⟩
    by_cases hji : j = i
    · subst hji
      refine now _ _ _ hE hX ?_
      -- from the asked one to the plain one
      have plain : ∀ (f : Nat) (l : Array Bool) (a : Act) (w : World), wpAnyX P ops Q j (fun w => m.run P w = .ok (.value v) w) f l a w → wpAny P .any ops Q f l a w := by
        intro f
        induction f with
        | zero => intro l a w h; exact h
        | succ f ih2 =>
          intro l a w h
          refine ⟨h.1, fun k hk => ?_⟩
          obtain ⟨_, ok, hok, _⟩ := mem_ready.1 hk
          have := h.2 k hk ok hok
          split at this
          · exact this
          · exact wpOp_mono (fun a' w' h' => ih2 _ _ _ h'.2) this
      exact plain _ _ _ _ H
    · obtain ⟨hjun, oj, hoj, hall⟩ := mem_ready.1 hj
      have h1 := H.2 j (ready_mono hj hji) oj hoj
      have hnot : ∀ e ∈ oj.after, Region.binds .any e = true → e.on ≠ i := fun e he hb heq => by
        have h1 := hall e he hb
        have h0 := (mem_ready.1 hr).1
        rw [heq] at h1
        rcases Nat.lt_or_ge i listed.size with h' | h'
        · simp [h'] at h0 h1; rw [h0] at h1; cases h1
        · simp [Array.getElem?_eq_none h'] at h1
      have hnw : ¬ (oj.after.toList.any (fun e => Region.binds .any e && Nat.beq e.on i) = true) := by
        intro hh
        obtain ⟨e, he, hb⟩ := List.any_eq_true.1 hh
        rw [Bool.and_eq_true] at hb
        exact hnot e (by simpa using he) hb.1 (Nat.eq_of_beq_eq_true hb.2)
      rw [if_neg hnw] at h1
      have h2 := wpOp_putE hoj (hfree j oj hoj hji hjun hnot) (fun cs b => hsel i oi cs b hi) (fun cs b => hsel j oj cs b hoj) hQ h1
      have hfree' : ∀ k ok, ops[k]? = some ok → k ≠ i → (listed.setIfInBounds j true).getD k true = false →
          (∀ e ∈ ok.after, Region.binds .any e = true → e.on ≠ i) → oi.apart ops ok = true := fun k ok hk hki hun hno => by
        refine hfree k ok hk hki ?_ hno
        by_cases hjk : j = k
        · subst hjk; exact hjun
        · rw [getD_set_ne true hjk] at hun; exact hun
      refine wpOp_mono (fun a' w' h3 => ih (listed.setIfInBounds j true) a' w' hfree' (ready_mono hr (Ne.symm hji)) ⟨h3.1.1.trans hE.1, h3.1.2.trans hE.2⟩ h3.2.1 ?_) h2
      rw [Array.setIfInBounds_comm _ _ hji]
      exact h3.2.2
end sem

/-- Two values that are told wholly, and are the same. -/
def det1 (s s' : SV) (K : Prop) : Prop := match s, s' with
  | .v x, .v y => veqK x y K
  | .ptr i o, .ptr i' o' => ob (Nat.beq i i') (ob (Nat.beq o o') K)
  | .mp i, .mp i' => ob (Nat.beq i i') K
  | .ia k l, .ia k' l' => match decide (k = k') with
    | true => ob (l == l') K
    | false => False
  | _, _ => False
theorem det1_sound {s s' : SV} {K : Prop} (h : det1 s s' K) : K ∧ ∀ (n : Nat) (ρ : Nat → Nat) (σ : Nat → Nat × Nat) (u u' : Value), Rel n ρ σ s u → Rel n ρ σ s' u' → u = u' := by
  unfold det1 at h
  split at h
  · obtain ⟨h1, h2⟩ := veqK_veq h
    have := veq_eq h1; subst this
    refine ⟨h2, fun n ρ σ u u' h3 h4 => ?_⟩
    simp only [Rel] at h3 h4; rw [h3, h4]
  · rw [ob_iff, ob_iff] at h
    obtain ⟨h1, h2, h3⟩ := h
    have h1 := Nat.eq_of_beq_eq_true h1
    have h2 := Nat.eq_of_beq_eq_true h2
    subst h1 h2
    refine ⟨h3, fun n ρ σ u u' h3 h4 => ?_⟩
    simp only [Rel] at h3 h4; rw [h3.2, h4.2]
  · rw [ob_iff] at h
    obtain ⟨h1, h3⟩ := h
    have h1 := Nat.eq_of_beq_eq_true h1
    subst h1
    refine ⟨h3, fun n ρ σ u u' h3 h4 => ?_⟩
    simp only [Rel] at h3 h4; rw [h3.2, h4.2]
  · split at h
    · rename_i hk
      have := of_decide_eq_true hk; subst this
      rw [ob_iff, beq_iff_eq] at h
      obtain ⟨rfl, h⟩ := h
      refine ⟨h, fun n ρ σ u u' h3 h4 => ?_⟩
      simp only [Rel] at h3 h4; rw [h3, h4]
    · exact h.elim
  · exact h.elim

def detL : List SV → List SV → Prop → Prop
  | [], [], K => K
  | a :: l, b :: m, K => det1 a b (detL l m K)
  | _, _, _ => False
theorem detL_sound : ∀ {l l' : List SV} {K : Prop}, detL l l' K → K ∧ ∀ (n : Nat) (ρ : Nat → Nat) (σ : Nat → Nat × Nat) (u u' : List Value), RelL n ρ σ l u → RelL n ρ σ l' u' → u = u'
  | [], [], K, h => ⟨h, fun n ρ σ u u' h1 h2 => by simp only [RelL] at h1 h2; rw [h1, h2]⟩
  | a :: l, b :: m, K, h => by
    simp only [detL] at h
    obtain ⟨h1, h2⟩ := det1_sound h
    obtain ⟨h3, h4⟩ := detL_sound h1
    refine ⟨h3, fun n ρ σ u u' g1 g2 => ?_⟩
    simp only [RelL] at g1 g2
    obtain ⟨x, y, rfl, g3, g4⟩ := g1
    obtain ⟨x', y', rfl, g5, g6⟩ := g2
    rw [h2 n ρ σ x x' g3 g5, h4 n ρ σ y y' g4 g6]
  | [], _ :: _, K, h => by simp [detL] at h
  | _ :: _, [], K, h => by simp [detL] at h
def detK (s s' : SV) (K : Prop) : Prop := match s with
  | .agg l => match s' with
    | .agg l' => detL l l' K
    | _ => False
  | s => det1 s s' K
theorem detK_sound {s s' : SV} {K : Prop} (h : detK s s' K) : K ∧ ∀ (n : Nat) (ρ : Nat → Nat) (σ : Nat → Nat × Nat) (u u' : Value), Rel n ρ σ s u → Rel n ρ σ s' u' → u = u' := by
  unfold detK at h
  split at h
  · split at h
    · obtain ⟨h1, h2⟩ := detL_sound h
      refine ⟨h1, fun n ρ σ u u' g1 g2 => ?_⟩
      simp only [Rel] at g1 g2
      obtain ⟨cs, rfl, g1⟩ := g1
      obtain ⟨cs', rfl, g2⟩ := g2
      have := h2 n ρ σ _ _ g1 g2
      rw [show cs = cs' from Array.ext' this]
    · exact h.elim
  · exact det1_sound h

/-- The load, made now, gives what it gave. -/
def chkX (P : Program) (t : TypeId) (x : Operand) (d : Nat) (st : St) (C : Prop) : Prop :=
  match evo st.env x, look st.env d with
  | some (.ptr j off), some s => loadS P st.tbl t j off fun s' => detK s s' C
  | _, _ => False

/-- Every order, a load having been made ahead. -/
def vaX (P : Program) (S : Specs) (ops : List Oper) (i : Nat) (t : TypeId) (x : Operand) (d : Nat) : Nat → Array Bool → St → (St → Prop) → Prop
  | 0, listed, st, K => match Region.ready .any ops.toArray listed with
    | [] => K st
    | _ :: _ => False
  | f + 1, listed, st, K => match Region.ready .any ops.toArray listed with
    | [] => K st
    | j :: r => allL (fun j => match nth ops j with
        | some o => match o.after.toList.any (fun e => Region.binds .any e && Nat.beq e.on i) with
          | true => v1 P S ops o st fun st' => va P S ops f (listed.setIfInBounds j true) st' K
          | false => v1 P S ops o st fun st' => chkX P t x d st' (vaX P S ops i t x d f (listed.setIfInBounds j true) st' K)
        | none => False) (j :: r)

def neT (x : Operand) (d : Nat) : Bool := match x with
  | .tmp t => !Nat.beq t d
  | _ => true
def firstL (P : Program) (ops : List Oper) (listed : Array Bool) : List Nat → Option (Nat × TypeId × Operand × Nat)
  | [] => none
  | i :: r => match nth ops i with
    | some o => match o.op, o.guard, o.dst with
      | .load t x, none, some d => match isAggT P t, Region.free .any ops.toArray listed i && neT x d with
        | some false, true => some (i, t, x, d)
        | _, _ => firstL P ops listed r
      | _, _, _ => firstL P ops listed r
    | none => firstL P ops listed r
/-- Every order; of loads that float one is made ahead. -/
def vaK (P : Program) (S : Specs) (ops : List Oper) : Nat → Array Bool → St → (St → Prop) → Prop
  | 0, listed, st, K => match Region.ready .any ops.toArray listed with
    | [] => K st
    | _ :: _ => False
  | f + 1, listed, st, K => match Region.ready .any ops.toArray listed with
    | [] => K st
    | j :: r => match firstP ops listed (j :: r) with
      | some (i, o) => pureP P st.env o.op fun s => putE st.nt o.dst s st.env fun env => vaK P S ops f (listed.setIfInBounds i true) { st with env := env } K
      | none => match (match r with | [] => none | _ :: _ => firstL P ops listed (j :: r)) with
        | some (i, t, x, d) => (match evo st.env x with
          | some (.ptr b off) => loadS P st.tbl t b off fun s => putE st.nt (some d) s st.env fun env => vaX P S ops i t x d f (listed.setIfInBounds i true) { st with env := env } K
          | _ => False)
        | none => allL (fun i => match nth ops i with
          | some o => v1 P S ops o st fun st' => vaK P S ops f (listed.setIfInBounds i true) st' K
          | none => False) (j :: r)

section
variable {P : Program} {S : Specs} {B : Base} {ρ0 : Nat → Nat} {σ0 : Nat → Nat × Nat}

theorem chkX_sound {t : TypeId} {x : Operand} {d : Nat} {st : St} {C : Prop} {a : Act} {w : World} (h0 : SOK ds B ρ0 σ0 st a w) (h : chkX P t x d st C) :
    C ∧ ∀ (o : Oper), o.op = .load t x → (execOp a.eval o).run P w = .ok (.value (a.tmps.getD d undef)) w := by
  obtain ⟨ρ, σ, hE, hT, _, _⟩ := h0
  unfold chkX at h
  split at h
  · rename_i j off s hx hs
    have hr := evo_sound hE hx
    obtain ⟨s', v, hd, hv, hrun⟩ := loadS_sound (P := P) hT h
    obtain ⟨hC, hdet⟩ := detK_sound hd
    refine ⟨hC, fun o ho => ?_⟩
    have he := hdet _ _ _ _ _ (hE.get _ _ hs) hv
    simp only [Rel] at hr
    simp [execOp, ho, Instr.loadAt, hr.2, Instr.sureAddr, hrun w (Fr.refl _ _), he]
  · exact h.elim

theorem vaX_sound {ops : Array Oper} {Q : Exit → Act → World → Prop} {K : St → Prop} {i : Nat} {oi : Oper} {t : TypeId} {x : Operand} {d : Nat} (hS : SpecsOK P S) (hs : Region.noSelect ops = true) (hp : ∀ c a w, ¬ Q (.panic c) a w) (hQ : ∀ st a w, K st → SOK ds B ρ0 σ0 st a w → Q .normal a w)
    (hi : ops[i]? = some oi) (hop : oi.op = .load t x) (hd : oi.dst = some d) (m : Sem Next) (v : Value) :
    ∀ (g : Nat) (listed : Array Bool) (st : St) (a : Act) (w : World),
      (∀ j oj, ops[j]? = some oj → j ≠ i → listed.getD j true = false → (∀ e ∈ oj.after, Region.binds .any e = true → e.on ≠ i) → oi.apart ops oj = true) →
      listed.getD i true = true → (execOp a.eval oi = m ∧ a.tmps.getD d undef = v) →
      SOK ds B ρ0 σ0 st a w → vaX P S ops.toList i t x d g listed st K → wpAnyX P ops Q i (fun w => m.run P w = .ok (.value v) w) g listed a w
  | 0, listed, st, a, w, _, _, _, h0, h => by
    simp only [vaX, Array.toArray_toList] at h
    split at h
    · rename_i hr
      exact ⟨hr, hQ _ _ _ h h0⟩
    · exact h.elim
  | g + 1, listed, st, a, w, hfree, hli, hlk, h0, h => by
    simp only [vaX, Array.toArray_toList] at h
    split at h
    · rename_i hr
      exact ⟨fun _ => hQ _ _ _ h h0, by rw [hr]; simp⟩
    · rename_i j0 r hr
      refine ⟨fun hh => (by rw [hr] at hh; cases hh), fun j hj oj hoj => ?_⟩
      have h1 := allL_mem h j (by rw [← hr]; exact hj)
      have hn : nth ops.toList j = some oj := by rw [nth_eq]; simpa using hoj
      rw [hn] at h1
      simp only at h1
      split at h1
      · rename_i hw
        rw [if_pos hw]
        exact v1_sound hS (fun st' a' w' hK h0' => va_sound hS hs hp hQ g _ _ _ _ h0' hK) hoj h0 h1
      · rename_i hw
        rw [if_neg (by rw [hw]; simp)]
        obtain ⟨hjun, oj', hoj', _⟩ := mem_ready.1 hj
        have hji : j ≠ i := by rintro rfl; rw [hli] at hjun; cases hjun
        have hno : ∀ e ∈ oj.after, Region.binds .any e = true → e.on ≠ i := fun e he hb heq => by
          have : oj.after.toList.any (fun e => Region.binds .any e && Nat.beq e.on i) = true := List.any_eq_true.2 ⟨e, by simpa using he, by rw [hb, heq, Nat.beq_refl]; rfl⟩
          rw [hw] at this; cases this
        have h2 := v1_sound (Q := Q) (K' := fun a' w' => ∃ st', SOK ds B ρ0 σ0 st' a' w' ∧ chkX P t x d st' (vaX P S ops.toList i t x d g (listed.setIfInBounds j true) st' K)) hS (fun st' a' w' hK h0' => ⟨st', h0', hK⟩) hoj h0 h1
        have h3 := wpOp_link hoj (hfree j oj hoj hji hjun hno) hd (fun cs b => Region.noSelect_spec hs i oi cs b hi) h2
        refine wpOp_mono (fun a' w' ⟨⟨e1, e2⟩, st', h0', hc⟩ => ?_) h3
        obtain ⟨hv, hrun⟩ := chkX_sound h0' hc
        have hrun := hrun oi hop
        rw [e1, e2, hlk.1, hlk.2] at hrun
        refine ⟨hrun, vaX_sound hS hs hp hQ hi hop hd m v g _ st' a' w' ?_ ?_ ⟨e1.trans hlk.1, e2.trans hlk.2⟩ h0' hv⟩
        · intro k ok hk hki hun hno
          refine hfree k ok hk hki ?_ hno
          by_cases hjk : j = k
          · subst hjk; exact hjun
          · rw [getD_set_ne true hjk] at hun; exact hun
        · rw [getD_set_ne true hji]; exact hli

theorem firstL_spec {ops : List Oper} {listed : Array Bool} {i d : Nat} {t : TypeId} {x : Operand} : ∀ {l : List Nat}, firstL P ops listed l = some (i, t, x, d) →
    i ∈ l ∧ ∃ o, ops[i]? = some o ∧ o.op = .load t x ∧ o.guard = none ∧ o.dst = some d ∧ Region.free .any ops.toArray listed i = true ∧ neT x d = true
  | j :: r, h => by
    simp only [firstL] at h
    split at h
    · rename_i o' ho
      rw [nth_eq] at ho
      split at h
      · rename_i h1 h2 h3
        split at h
        · rename_i _ hf
          simp at h
          obtain ⟨rfl, rfl, rfl, rfl⟩ := h
          rw [Bool.and_eq_true] at hf
          exact ⟨by simp, o', ho, h1, h2, h3, hf.1, hf.2⟩
        · exact (firstL_spec h).imp_left (List.mem_cons_of_mem _)
      · exact (firstL_spec h).imp_left (List.mem_cons_of_mem _)
    · exact (firstL_spec h).imp_left (List.mem_cons_of_mem _)

theorem eval_put_ne {a : Act} {x : Operand} {d : Nat} {v : Value} (h : neT x d = true) : (a.put (some d) v).eval x = a.eval x := by
  cases x with
  | tmp t =>
    simp only [neT, Bool.not_eq_true'] at h
    have : d ≠ t := fun e => by rw [e, Nat.beq_refl] at h; cases h
    simp [Act.put, Act.eval, Array.getElem?_setIfInBounds_ne this]
  | _ => rfl

theorem putE_lt {nt d : Nat} {s : SV} {env : Env} {K : Env → Prop} (h : putE nt (some d) s env K) : d < nt := by
  unfold putE at h
  simp only at h
  split at h
  · rename_i hd; exact Nat.le_of_ble_eq_true hd
  · exact h.elim

theorem vaK_sound {ops : Array Oper} {Q : Exit → Act → World → Prop} {K : St → Prop} (hS : SpecsOK P S) (hs : Region.noSelect ops = true) (hp : ∀ c a w, ¬ Q (.panic c) a w) (hQ : ∀ st a w, K st → SOK ds B ρ0 σ0 st a w → Q .normal a w) :
    ∀ (g : Nat) (listed : Array Bool) (st : St) (a : Act) (w : World), SOK ds B ρ0 σ0 st a w → vaK P S ops.toList g listed st K → wpAny P .any ops Q g listed a w
  | 0, listed, st, a, w, h0, h => by
    simp only [vaK, Array.toArray_toList] at h
    split at h
    · rename_i hr
      exact wpAny_done hr (hQ _ _ _ h h0) 0
    · exact h.elim
  | g + 1, listed, st, a, w, h0, h => by
    simp only [vaK, Array.toArray_toList] at h
    split at h
    · rename_i hr
      exact wpAny_done hr (hQ _ _ _ h h0) _
    · rename_i j r hr
      split at h
      · rename_i i o hfp
        obtain ⟨hi, ho, hx, hfr⟩ := firstP_spec hfp
        obtain ⟨ρ, σ, hE, hT, hn, hag⟩ := h0
        obtain ⟨s, v, h, hrel, hy⟩ := pureP_sound (ops := ops) hE hx h
        obtain ⟨env', h, hE'⟩ := putE_sound (dst := o.dst) hE hrel h
        refine wpAny_take (by simpa using ho) hs (by simpa using hfr) (by rw [hr]; simpa using hi) (fun c a w h => absurd h (hp _ _ _)) hy ?_
        exact vaK_sound hS hs hp hQ g _ { st with env := env' } _ _ ⟨ρ, σ, hE', hT, hn, hag⟩ h
      · split at h
        · rename_i i t x d hfl
          have hfl' : firstL P ops.toList listed (j :: r) = some (i, t, x, d) := by
            split at hfl
            · cases hfl
            · exact hfl
          obtain ⟨hi, o, ho, hop, hgu, hdst, hfr, hne⟩ := firstL_spec hfl'
          have ho : ops[i]? = some o := by simpa using ho
          split at h
          · rename_i b off hx
            obtain ⟨ρ, σ, hE, hT, hn, hag⟩ := h0
            have hrx := evo_sound hE hx
            obtain ⟨s, v, h, hrel, hrun⟩ := loadS_sound (P := P) hT h
            have hdlt : d < a.tmps.size := by rw [hE.size]; exact putE_lt h
            obtain ⟨env', h, hE'⟩ := putE_sound (dst := some d) hE hrel h
            have hil : i ∈ Region.ready .any ops listed := by rw [hr]; simpa using hi
            have hil0 : listed.getD i true = false := (mem_ready.1 hil).1
            have hisz : i < listed.size := by
              rcases Nat.lt_or_ge i listed.size with h' | h'
              · exact h'
              · simp [Array.getElem?_eq_none h'] at hil0
            simp only [Rel] at hrx
            have hm : (execOp a.eval o).run P w = .ok (.value v) w := by
              simp [execOp, hop, Instr.loadAt, hrx.2, Instr.sureAddr, hrun w (Fr.refl _ _)]
            refine wpAny_track (v := v) (m := execOp a.eval o) ho (Region.noSelect_spec hs) (fun c a w h => absurd h (hp _ _ _)) g listed a w (Region.free_spec ho (by simpa using hfr)) hil ⟨rfl, by simp [Region.wanted, hgu]⟩ hm ?_
            rw [hdst]
            refine vaX_sound hS hs hp hQ ho hop hdst _ _ g _ { st with env := env' } _ _ ?_ (by simp [hisz]) ⟨?_, ?_⟩ ⟨ρ, σ, hE', hT, hn, hag⟩ h
            · intro k ok hk hki hun hno
              refine Region.free_spec ho (by simpa using hfr) k ok hk hki ?_ hno
              rw [getD_set_ne true (Ne.symm hki)] at hun; exact hun
            · simp [execOp, hop, eval_put_ne hne]
            · simp [Act.put, hdlt]
          · exact h.elim
        · refine wpAny_all hr (by simp) fun i hi => ?_
          have h1 := allL_mem h i hi
          split at h1
          · rename_i o ho
            rw [nth_eq] at ho
            exact v1_sound hS (fun st' a' w' hK h0' => vaK_sound hS hs hp hQ g _ _ _ _ h0' hK) (by simpa using ho) h0 h1
          · exact h1.elim
end
end Go.Proofs.YtmnenigmkfnciaaGreatDoor.Sx
