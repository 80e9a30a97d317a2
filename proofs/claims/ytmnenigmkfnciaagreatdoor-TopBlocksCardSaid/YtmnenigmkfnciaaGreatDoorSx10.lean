/- The walk by computation: code, loops, functions. No condition. -/
import Derived.Test.YtmnenigmkfnciaaGreatDoorSx9
namespace Go.Proofs.YtmnenigmkfnciaaGreatDoor.Sx
open Go
variable {ds : List Deferred}

/-! ### One state tells no more than another -/
mutual
def SV.lt (n : Nat) : SV → Bool
  | .v _ | .ia _ _ | .unk => true
  | .ptr i _ | .slc i _ _ _ _ | .mp i | .pix i _ _ _ _ => Nat.ble (i + 1) n
  | .agg l | .tup l => SV.ltL n l
  | .fn _ a b => SV.ltL n a && SV.ltL n b
  | .ifc _ s => SV.lt n s
def SV.ltL (n : Nat) : List SV → Bool
  | [] => true
  | a :: l => SV.lt n a && SV.ltL n l
end
mutual
theorem SV.lt_refs {n : Nat} : ∀ (s : SV) (i : Nat), s.lt n = true → s.refs i = true → i < n
  | .v _, i, _, h => by simp [SV.refs] at h
  | .ia _ _, i, _, h => by simp [SV.refs] at h
  | .unk, i, _, h => by simp [SV.refs] at h
  | .ptr j _, i, hw, h => by simp only [SV.lt, SV.refs] at hw h; have := Nat.eq_of_beq_eq_true h; subst this; exact Nat.le_of_ble_eq_true hw
  | .slc j _ _ _ _, i, hw, h => by simp only [SV.lt, SV.refs] at hw h; have := Nat.eq_of_beq_eq_true h; subst this; exact Nat.le_of_ble_eq_true hw
  | .agg l, i, hw, h => by simp only [SV.lt, SV.refs] at hw h; exact SV.ltL_refs l i hw h
  | .tup l, i, hw, h => by simp only [SV.lt, SV.refs] at hw h; exact SV.ltL_refs l i hw h
  | .fn _ a b, i, hw, h => by
    simp only [SV.lt, SV.refs, Bool.and_eq_true, Bool.or_eq_true] at hw h
    rcases h with h | h
    · exact SV.ltL_refs a i hw.1 h
    · exact SV.ltL_refs b i hw.2 h
  | .mp j, i, hw, h => by simp only [SV.lt, SV.refs] at hw h; have := Nat.eq_of_beq_eq_true h; subst this; exact Nat.le_of_ble_eq_true hw
  | .pix j _ _ _ _, i, hw, h => by simp only [SV.lt, SV.refs] at hw h; have := Nat.eq_of_beq_eq_true h; subst this; exact Nat.le_of_ble_eq_true hw
  | .ifc _ s, i, hw, h => by simp only [SV.lt, SV.refs] at hw h; exact SV.lt_refs s i hw h
theorem SV.ltL_refs {n : Nat} : ∀ (s : List SV) (i : Nat), SV.ltL n s = true → SV.refsL i s = true → i < n
  | [], i, _, h => by simp [SV.refsL] at h
  | a :: l, i, hw, h => by
    simp only [SV.ltL, SV.refsL, Bool.and_eq_true, Bool.or_eq_true] at hw h
    rcases h with h | h
    · exact SV.lt_refs a i hw.1 h
    · exact SV.ltL_refs l i hw.2 h
end
mutual
/-- From n blocks to n' ones, those below both the same. -/
theorem Rel.cut {n n' : Nat} {ρ ρ' : Nat → Nat} {σ σ' : Nat → Nat × Nat} (hr : ∀ i, i < n → ρ' i = ρ i ∧ σ' i = σ i) : ∀ (s : SV) (u : Value), s.lt n' = true → Rel n ρ σ s u → Rel n' ρ' σ' s u
  | .v x, u, _, h => by simpa [Rel] using h
  | .ptr i off, u, hl, h => by
    simp only [Rel, SV.lt] at h hl ⊢
    obtain ⟨h1, h2⟩ := h
    exact ⟨Nat.le_of_ble_eq_true hl, by rw [(hr i h1).1, (hr i h1).2]; exact h2⟩
  | .slc i off len cp s, u, hl, h => by
    simp only [Rel, SV.lt] at h hl ⊢
    obtain ⟨h1, h2, h3⟩ := h
    exact ⟨Nat.le_of_ble_eq_true hl, h2, by rw [(hr i h1).1, (hr i h1).2]; exact h3⟩
  | .agg l, u, hl, h => by
    simp only [Rel, SV.lt] at h hl ⊢
    obtain ⟨cs, h1, h2⟩ := h
    exact ⟨cs, h1, RelL.cut hr l _ hl h2⟩
  | .ia k l, u, _, h => by simpa [Rel] using h
  | .tup l, u, hl, h => by
    simp only [Rel, SV.lt] at h hl ⊢
    obtain ⟨cs, h1, h2⟩ := h
    exact ⟨cs, h1, RelL.cut hr l _ hl h2⟩
  | .fn f a b, u, hl, h => by
    simp only [Rel, SV.lt, Bool.and_eq_true] at h hl ⊢
    obtain ⟨x, y, h1, h2, h3⟩ := h
    exact ⟨x, y, h1, RelL.cut hr a _ hl.1 h2, RelL.cut hr b _ hl.2 h3⟩
  | .mp i, u, hl, h => by
    simp only [Rel, SV.lt] at h hl ⊢
    obtain ⟨h1, h2⟩ := h
    exact ⟨Nat.le_of_ble_eq_true hl, by rw [(hr i h1).1]; exact h2⟩
  | .pix i off s ix c, u, hl, h => by
    simp only [Rel, SV.lt] at h hl ⊢
    obtain ⟨h1, h2⟩ := h
    exact ⟨Nat.le_of_ble_eq_true hl, by rw [(hr i h1).1, (hr i h1).2]; exact h2⟩
  | .ifc t s, u, hl, h => by
    simp only [Rel, SV.lt] at h hl ⊢
    obtain ⟨x, h1, h2⟩ := h
    exact ⟨x, h1, Rel.cut hr s x hl h2⟩
  | .unk, u, _, _ => by simp [Rel]
theorem RelL.cut {n n' : Nat} {ρ ρ' : Nat → Nat} {σ σ' : Nat → Nat × Nat} (hr : ∀ i, i < n → ρ' i = ρ i ∧ σ' i = σ i) : ∀ (s : List SV) (u : List Value), SV.ltL n' s = true → RelL n ρ σ s u → RelL n' ρ' σ' s u
  | [], u, _, h => by simpa [RelL] using h
  | a :: l, u, hl, h => by
    simp only [RelL, SV.ltL, Bool.and_eq_true] at h hl ⊢
    obtain ⟨b, m, h1, h2, h3⟩ := h
    exact ⟨b, m, h1, Rel.cut hr a b hl.1 h2, RelL.cut hr l m hl.2 h3⟩
end

def veq : Value → Value → Prop
  | .int k x, .int k' y => match decide (k = k') with
    | true => x = y
    | false => False
  | .bool x, .bool y => x = y
  | .string x, .string y => x = y
  | x, y => x = y
theorem veq_eq {x y : Value} (h : veq x y) : x = y := by
  unfold veq at h
  split at h
  · split at h
    · rename_i hk; rw [of_decide_eq_true hk, h]
    · exact h.elim
  · rw [h]
  · rw [h]
  · exact h
def isNilS : Value → Bool
  | .slice none 0 0 => true
  | _ => false
theorem isNilS_eq {x : Value} (h : isNilS x = true) : x = .slice none 0 0 := by
  unfold isNilS at h
  split at h
  · rfl
  · cases h
mutual
/-- The first value tells at least what the second does (equations between numbers are left to be shown). -/
def SV.le (a : SV) : SV → Prop
  | .unk => True
  | .v y => match a with
    | .v x => veq x y
    | _ => False
  | .ptr i' o' => match a with
    | .ptr i o => i = i' ∧ o = o'
    | _ => False
  | .slc i' o' l' c' s' => match a with
    | .slc i o l c s => i = i' ∧ o = o' ∧ l = l' ∧ c' ≤ c ∧ l' ≤ c' ∧ s = s'
    | .v x => match isNilS x with
      | true => l' = 0 ∧ c' = 0
      | false => False
    | _ => False
  | .ia k' l' => match a with
    | .ia k l => k = k' ∧ l = l'
    | .agg l => match toInts k' l with
      | some r => r = l'
      | none => False
    | _ => False
  | .agg l' => match a with
    | .agg l => SV.leL l l'
    | _ => False
  | .tup l' => match a with
    | .tup l => SV.leL l l'
    | _ => False
  | .fn f' a' b' => match a with
    | .fn f a b => f = f' ∧ SV.leL a a' ∧ SV.leL b b'
    | _ => False
  | .mp i' => match a with
    | .mp i => i = i'
    | _ => False
  | .ifc t' s' => match a with
    | .ifc t s => t = t' ∧ SV.le s s'
    | _ => False
  | .pix i' o' s' x' c' => match a with
    | .pix i o s x c => i = i' ∧ o = o' ∧ s = s' ∧ x = x' ∧ c = c'
    | _ => False
def SV.leL (l : List SV) : List SV → Prop
  | [] => match l with
    | [] => True
    | _ => False
  | b :: m => match l with
    | a :: l => SV.le a b ∧ SV.leL l m
    | [] => False
end

/-! The same, one condition behind the other: what is true by itself vanishes. -/
def isNilP : Value → Bool
  | .pointer none => true
  | _ => false
theorem isNilP_eq {x : Value} (h : isNilP x = true) : x = .pointer none := by
  unfold isNilP at h
  split at h
  · rfl
  · cases h
def veqK : Value → Value → Prop → Prop
  | .int k x, .int k' y, K => match decide (k = k') with
    | true => ob (x == y) K
    | false => False
  | .bool x, .bool y, K => ob (x == y) K
  | .string x, .string y, K => ob (seq x y) K
  | x, y, K => match (isNilS x && isNilS y) || (isNilP x && isNilP y) with
    | true => K
    | false => x = y ∧ K
theorem veqK_veq {x y : Value} {K : Prop} (h : veqK x y K) : veq x y ∧ K := by
  unfold veqK at h
  split at h
  · split at h
    · rename_i hk
      rw [ob_iff] at h
      have := of_decide_eq_true hk; subst this
      exact ⟨by simpa [veq] using h.1, h.2⟩
    · exact h.elim
  · rw [ob_iff] at h; exact ⟨by simpa [veq] using h.1, h.2⟩
  · rw [ob_iff, seq_iff] at h; exact ⟨by simpa [veq] using h.1, h.2⟩
  · split at h
    · rename_i hb
      refine ⟨?_, h⟩
      rw [Bool.or_eq_true, Bool.and_eq_true, Bool.and_eq_true] at hb
      rcases hb with ⟨h1, h2⟩ | ⟨h1, h2⟩
      · rw [isNilS_eq h1, isNilS_eq h2]; simp [veq]
      · rw [isNilP_eq h1, isNilP_eq h2]; simp [veq]
    · obtain ⟨rfl, h⟩ := h
      refine ⟨?_, h⟩
      cases x <;> simp [veq]
mutual
def SV.leK (a : SV) : SV → Prop → Prop
  | .unk, K => K
  | .v y, K => match a with
    | .v x => veqK x y K
    | _ => False
  | .ptr i' o', K => match a with
    | .ptr i o => ob (Nat.beq i i') (ob (Nat.beq o o') K)
    | _ => False
  | .slc i' o' l' c' s', K => match a with
    | .slc i o l c s => ob (Nat.beq i i') (ob (Nat.beq o o') (ob (Nat.beq l l') (ob (Nat.ble c' c) (ob (Nat.ble l' c') (ob (Nat.beq s s') K)))))
    | .v x => match isNilS x with
      | true => ob (Nat.beq l' 0) (ob (Nat.beq c' 0) K)
      | false => False
    | _ => False
  | .ia k' l', K => match a with
    | .ia k l => match decide (k = k') with
      | true => ob (l == l') K
      | false => False
    | .agg l => match toInts k' l with
      | some r => ob (r == l') K
      | none => False
    | _ => False
  | .agg l', K => match a with
    | .agg l => SV.leLK l l' K
    | _ => False
  | .tup l', K => match a with
    | .tup l => SV.leLK l l' K
    | _ => False
  | .fn f' a' b', K => match a with
    | .fn f a b => match decide (f = f') with
      | true => SV.leLK a a' (SV.leLK b b' K)
      | false => False
    | _ => False
  | .mp i', K => match a with
    | .mp i => ob (Nat.beq i i') K
    | _ => False
  | .ifc t' s', K => match a with
    | .ifc t s => ob (Nat.beq t t') (SV.leK s s' K)
    | _ => False
  | .pix i' o' s' x' c', K => match a with
    | .pix i o s x c => ob (Nat.beq i i') (ob (Nat.beq o o') (ob (Nat.beq s s') (ob (Nat.beq x x') (ob (Nat.beq c c') K))))
    | _ => False
def SV.leLK (l : List SV) : List SV → Prop → Prop
  | [], K => match l with
    | [] => K
    | _ => False
  | b :: m, K => match l with
    | a :: l => SV.leK a b (SV.leLK l m K)
    | [] => False
end
mutual
theorem SV.leK_le : ∀ (b a : SV) (K : Prop), SV.leK a b K → SV.le a b ∧ K
  | .unk, a, K, h => ⟨by simp [SV.le], by simpa [SV.leK] using h⟩
  | .v y, a, K, h => by
    cases a <;> simp only [SV.leK] at h
    simp only [SV.le]; exact veqK_veq h
  | .ptr i' o', a, K, h => by
    cases a <;> simp only [SV.leK, ob_iff] at h
    simp only [SV.le]; exact ⟨⟨Nat.eq_of_beq_eq_true h.1, Nat.eq_of_beq_eq_true h.2.1⟩, h.2.2⟩
  | .slc i' o' l' c' s', a, K, h => by
    cases a <;> simp only [SV.leK] at h
    · rename_i x
      split at h
      · rename_i hx
        simp only [ob_iff] at h
        simp only [SV.le, hx]; exact ⟨⟨Nat.eq_of_beq_eq_true h.1, Nat.eq_of_beq_eq_true h.2.1⟩, h.2.2⟩
      · exact h.elim
    · simp only [ob_iff] at h
      obtain ⟨h1, h2, h3, h4, h5, h6, h7⟩ := h
      simp only [SV.le]
      exact ⟨⟨Nat.eq_of_beq_eq_true h1, Nat.eq_of_beq_eq_true h2, Nat.eq_of_beq_eq_true h3, Nat.le_of_ble_eq_true h4, Nat.le_of_ble_eq_true h5, Nat.eq_of_beq_eq_true h6⟩, h7⟩
  | .ia k' l', a, K, h => by
    cases a <;> simp only [SV.leK] at h
    · split at h
      · rename_i r hr
        simp only [ob_iff, beq_iff_eq] at h
        simp only [SV.le, hr]; exact h
      · exact h.elim
    · split at h
      · rename_i hk
        simp only [ob_iff, beq_iff_eq] at h
        simp only [SV.le]; exact ⟨⟨of_decide_eq_true hk, h.1⟩, h.2⟩
      · exact h.elim
  | .agg l', a, K, h => by
    cases a <;> simp only [SV.leK] at h
    simp only [SV.le]; exact SV.leLK_le l' _ K h
  | .tup l', a, K, h => by
    cases a <;> simp only [SV.leK] at h
    simp only [SV.le]; exact SV.leLK_le l' _ K h
  | .fn f' a' b', a, K, h => by
    cases a <;> simp only [SV.leK] at h
    split at h
    · rename_i hf
      obtain ⟨h2, h3⟩ := SV.leLK_le a' _ _ h
      obtain ⟨h3, h4⟩ := SV.leLK_le b' _ _ h3
      simp only [SV.le]; exact ⟨⟨of_decide_eq_true hf, h2, h3⟩, h4⟩
    · exact h.elim
  | .mp i', a, K, h => by
    cases a <;> simp only [SV.leK, ob_iff] at h
    simp only [SV.le]; exact ⟨Nat.eq_of_beq_eq_true h.1, h.2⟩
  | .ifc t' s', a, K, h => by
    cases a <;> simp only [SV.leK, ob_iff] at h
    obtain ⟨h1, h2⟩ := h
    obtain ⟨h2, h3⟩ := SV.leK_le s' _ _ h2
    simp only [SV.le]; exact ⟨⟨Nat.eq_of_beq_eq_true h1, h2⟩, h3⟩
  | .pix i' o' s' x' c', a, K, h => by
    cases a <;> simp only [SV.leK, ob_iff] at h
    obtain ⟨h1, h2, h3, h4, h5, h6⟩ := h
    simp only [SV.le]; exact ⟨⟨Nat.eq_of_beq_eq_true h1, Nat.eq_of_beq_eq_true h2, Nat.eq_of_beq_eq_true h3, Nat.eq_of_beq_eq_true h4, Nat.eq_of_beq_eq_true h5⟩, h6⟩
theorem SV.leLK_le : ∀ (b a : List SV) (K : Prop), SV.leLK a b K → SV.leL a b ∧ K
  | [], a, K, h => by cases a <;> simp only [SV.leLK] at h; exact ⟨by simp [SV.leL], h⟩
  | b :: m, a, K, h => by
    cases a <;> simp only [SV.leLK] at h
    obtain ⟨h1, h2⟩ := SV.leK_le b _ _ h
    obtain ⟨h2, h3⟩ := SV.leLK_le m _ _ h2
    simp only [SV.leL]; exact ⟨⟨h1, h2⟩, h3⟩
end

section
variable {n : Nat} {ρ : Nat → Nat} {σ : Nat → Nat × Nat}
mutual
theorem SV.le_rel : ∀ (b a : SV) (u : Value), SV.le a b → b.lt n = true → Rel n ρ σ a u → Rel n ρ σ b u
  | .unk, a, u, _, _, _ => by simp [Rel]
  | .v y, a, u, h, _, hr => by
    cases a <;> simp only [SV.le] at h
    rw [← veq_eq h]; exact hr
  | .ptr i' o', a, u, h, _, hr => by
    cases a <;> simp only [SV.le] at h
    obtain ⟨rfl, rfl⟩ := h; exact hr
  | .slc i' o' l' c' s', a, u, h, hl, hr => by
    cases a <;> simp only [SV.le] at h
    · rename_i x
      split at h
      · rename_i hx
        obtain ⟨rfl, rfl⟩ := h
        have := isNilS_eq hx
        subst this
        simp only [Rel] at hr ⊢
        simp only [SV.lt] at hl
        exact ⟨Nat.le_of_ble_eq_true hl, by omega, .inl ⟨hr, by trivial⟩⟩
      · exact h.elim
    · obtain ⟨rfl, rfl, rfl, h1, h2, rfl⟩ := h
      simp only [Rel] at hr ⊢
      obtain ⟨h3, h4, h5⟩ := hr
      refine ⟨h3, h2, ?_⟩
      rcases h5 with ⟨h6, h7, h8⟩ | ⟨o', c0, h6, h7, h8⟩
      · exact .inl ⟨h6, h7, by omega⟩
      · exact .inr ⟨o', c0, h6, by omega, h8⟩
  | .ia k' l', a, u, h, _, hr => by
    cases a <;> simp only [SV.le] at h
    · split at h
      · rename_i r hr'
        subst h
        simp only [Rel] at hr ⊢
        obtain ⟨cs, rfl, h⟩ := hr
        have := toInts_rel hr' h
        rw [← this]
      · exact h.elim
    · obtain ⟨rfl, rfl⟩ := h; exact hr
  | .agg l', a, u, h, hl, hr => by
    cases a <;> simp only [SV.le] at h
    simp only [Rel] at hr ⊢
    simp only [SV.lt] at hl
    obtain ⟨cs, rfl, hr⟩ := hr
    exact ⟨cs, rfl, SV.leL_rel l' _ _ h hl hr⟩
  | .tup l', a, u, h, hl, hr => by
    cases a <;> simp only [SV.le] at h
    simp only [Rel] at hr ⊢
    simp only [SV.lt] at hl
    obtain ⟨cs, rfl, hr⟩ := hr
    exact ⟨cs, rfl, SV.leL_rel l' _ _ h hl hr⟩
  | .fn f' a' b', a, u, h, hl, hr => by
    cases a <;> simp only [SV.le] at h
    obtain ⟨rfl, h1, h2⟩ := h
    simp only [Rel] at hr ⊢
    simp only [SV.lt, Bool.and_eq_true] at hl
    obtain ⟨x, y, rfl, h3, h4⟩ := hr
    exact ⟨x, y, rfl, SV.leL_rel a' _ _ h1 hl.1 h3, SV.leL_rel b' _ _ h2 hl.2 h4⟩
  | .mp i', a, u, h, _, hr => by
    cases a <;> simp only [SV.le] at h
    subst h; exact hr
  | .ifc t' s', a, u, h, hl, hr => by
    cases a <;> simp only [SV.le] at h
    obtain ⟨rfl, h1⟩ := h
    simp only [Rel] at hr ⊢
    simp only [SV.lt] at hl
    obtain ⟨x, rfl, h3⟩ := hr
    exact ⟨x, rfl, SV.le_rel s' _ _ h1 hl h3⟩
  | .pix i' o' s' x' c', a, u, h, _, hr => by
    cases a <;> simp only [SV.le] at h
    obtain ⟨rfl, rfl, rfl, rfl, rfl⟩ := h; exact hr
theorem SV.leL_rel : ∀ (b a : List SV) (u : List Value), SV.leL a b → SV.ltL n b = true → RelL n ρ σ a u → RelL n ρ σ b u
  | [], a, u, h, _, hr => by cases a <;> simp only [SV.leL] at h; exact hr
  | b :: m, a, u, h, hl, hr => by
    cases a <;> simp only [SV.leL] at h
    simp only [RelL] at hr ⊢
    simp only [SV.ltL, Bool.and_eq_true] at hl
    obtain ⟨x, y, rfl, h1, h2⟩ := hr
    exact ⟨x, y, rfl, SV.le_rel b _ x h.1 hl.1 h1, SV.leL_rel m _ y h.2 hl.2 h2⟩
end
end

/-- The first cells of a block, the first told by the second or more. -/
def preLe : List SV → List SV → Prop
  | _, [] => True
  | a :: l, b :: m => SV.le a b ∧ preLe l m
  | [], _ :: _ => False
def ksEq : KS → KS → Prop
  | .i k l, .i k' l' => k = k' ∧ l = l'
  | .s l, .s l' => l = l'
  | .c k us f, .c k' us' f' => k = k' ∧ us = us' ∧ ∀ x ∈ us', f x = f' x
  | .i k l, .c k' us' f' => k = k' ∧ (∀ x ∈ us', hasI l x = f' x) ∧ ∀ x ∈ l, x ∈ us'
  | _, _ => False
theorem ksEq_is {a b : KS} (h : ksEq a b) {u : List Value} (hu : a.Is u) : b.Is u := by
  unfold ksEq at h
  split at h
  · rw [← h.1, ← h.2]; exact hu
  · rw [← h]; exact hu
  · obtain ⟨rfl, rfl, h⟩ := h
    simp only [KS.Is] at hu ⊢
    intro v
    rw [hu]
    constructor
    · rintro ⟨x, h1, h2, h3⟩; exact ⟨x, h1, by rw [← h x h1]; exact h2, h3⟩
    · rintro ⟨x, h1, h2, h3⟩; exact ⟨x, h1, by rw [h x h1]; exact h2, h3⟩
  · obtain ⟨rfl, h1, h2⟩ := h
    simp only [KS.Is] at hu ⊢
    subst hu
    intro v
    simp only [List.mem_map]
    constructor
    · rintro ⟨x, hx, rfl⟩; exact ⟨x, h2 x hx, by rw [← h1 x (h2 x hx)]; exact hasI_iff.2 hx, rfl⟩
    · rintro ⟨x, hx, hf, rfl⟩; exact ⟨x, hasI_iff.1 (by rw [h1 x hx]; exact hf), rfl⟩
  · exact h.elim
def colEq (n : Nat) : Col → Col → Prop
  | .i k f, .i k' g => k = k' ∧ ∀ r, r < n → f r = g r
  | .s f, .s g => ∀ r, r < n → f r = g r
  | .b f, .b g => ∀ r, r < n → f r = g r
  | _, _ => False
def colsEq (n : Nat) : List Col → List Col → Prop
  | [], [] => True
  | a :: l, b :: m => colEq n a b ∧ colsEq n l m
  | _, _ => False
theorem colEq_at {n : Nat} {a b : Col} (h : colEq n a b) (r : Nat) (hr : r < n) : a.at r = b.at r := by
  unfold colEq at h
  split at h
  · simp only [Col.at, h.1, h.2 r hr]
  · simp only [Col.at, h r hr]
  · simp only [Col.at, h r hr]
  · exact h.elim
theorem colsEq_row {n : Nat} : ∀ {a b : List Col}, colsEq n a b → a.length = b.length ∧ ∀ r, r < n → rowL a r = rowL b r
  | [], [], _ => ⟨rfl, fun _ _ => rfl⟩
  | a :: l, b :: m, h => by
    simp only [colsEq] at h
    obtain ⟨h1, h2⟩ := colsEq_row h.2
    refine ⟨by simp [h1], fun r hr => ?_⟩
    have := h2 r hr
    simp only [rowL, List.map_cons] at this ⊢
    rw [colEq_at h.1 r hr, this]
  | [], _ :: _, h => by simp [colsEq] at h
  | _ :: _, [], h => by simp [colsEq] at h
theorem colsEq_rows {n : Nat} {a b : List Col} (h : colsEq n a b) : ∀ k, k ≤ n → rowsL a k = rowsL b k
  | 0, _ => rfl
  | k + 1, hk => by rw [rowsL, rowsL, colsEq_rows h k (by omega), (colsEq_row h).2 k (by omega)]
def blkLe (a b : Blk) : Prop :=
  match b with
  | .dead => True
  | .tab w' n' cols' => match a with
    | .tab w n cols => (w' = true → w = true) ∧ n' ≤ n ∧ colsEq n' cols cols'
    | .cells w l => (w' = true → w = true) ∧ preLe l ((rowsL cols' n').map SV.v)
    | _ => False
  | .map w' pl' ks' g' => match a with
    | .map w _ ks g => (w' = true → w = true) ∧ ksEq ks ks' ∧ ∀ y ∈ ks'.vals, (pl' = true → plainS (g' y) = true) ∧ SV.le (g y) (g' y)
    | _ => False
  | .cells w' l' => match a with
    | .cells w l => (w' = true → w = true) ∧ preLe l l'
    | _ => False
  | .ints w' k' l' => match a with
    | .ints w k l => (w' = true → w = true) ∧ k = k' ∧ l' <+: l
    | .cells w l => match toInts k' l with
      | some r => (w' = true → w = true) ∧ l' <+: r
      | none => False
    | _ => False
def isEmptyB : Blk → Bool
  | .dead => true
  | .cells _ [] => true
  | .ints _ _ [] => true
  | _ => false
/-- A block that may stand for none: nothing is known in it. -/
def emptyB (b : Blk) : Prop := match b with
  | .dead => True
  | .cells _ l => match l with
    | [] => True
    | _ => False
  | .ints _ _ l => ob l.isEmpty True
  | .tab _ n _ => ob (Nat.beq n 0) True
  | .map _ _ _ _ => False
def tblLe : List Blk → List Blk → Prop
  | _, [] => True
  | a :: l, b :: m => blkLe a b ∧ tblLe l m
  | [], b :: m => emptyB b ∧ tblLe [] m
def preLeK : List SV → List SV → Prop → Prop
  | _, [], K => K
  | a :: l, b :: m, K => SV.leK a b (preLeK l m K)
  | [], _ :: _, _ => False
theorem preLeK_le : ∀ (l m : List SV) (K : Prop), preLeK l m K → preLe l m ∧ K
  | l, [], K, h => by cases l <;> exact ⟨by simp [preLe], by simpa [preLeK] using h⟩
  | a :: l, b :: m, K, h => by
    simp only [preLeK] at h
    obtain ⟨h1, h2⟩ := SV.leK_le b _ _ h
    obtain ⟨h2, h3⟩ := preLeK_le l m _ h2
    simp only [preLe]; exact ⟨⟨h1, h2⟩, h3⟩
  | [], b :: m, K, h => by simp [preLeK] at h
def ksEqK : KS → KS → Prop → Prop
  | .i k l, .i k' l', K => match decide (k = k') with
    | true => ob (l == l') K
    | false => False
  | .s l, .s l', K => l = l' ∧ K
  | .c k us f, .c k' us' f', K => match decide (k = k') with
    | true => ob (us == us') ((∀ x ∈ us', f x = f' x) ∧ K)
    | false => False
  | .i k l, .c k' us' f', K => match decide (k = k') with
    | true => (∀ x ∈ us', hasI l x = f' x) ∧ (∀ x ∈ l, x ∈ us') ∧ K
    | false => False
  | _, _, _ => False
theorem ksEqK_eq {a b : KS} {K : Prop} (h : ksEqK a b K) : ksEq a b ∧ K := by
  unfold ksEqK at h
  split at h
  · split at h
    · rename_i hk
      rw [ob_iff, beq_iff_eq] at h
      exact ⟨⟨of_decide_eq_true hk, h.1⟩, h.2⟩
    · exact h.elim
  · exact h
  · split at h
    · rename_i hk
      rw [ob_iff, beq_iff_eq] at h
      exact ⟨⟨of_decide_eq_true hk, h.1, h.2.1⟩, h.2.2⟩
    · exact h.elim
  · split at h
    · rename_i hk
      exact ⟨⟨of_decide_eq_true hk, h.1, h.2.1⟩, h.2.2⟩
    · exact h.elim
  · exact h.elim
def colEqK (n : Nat) (a b : Col) (K : Prop) : Prop := match a, b with
  | .i k f, .i k' g => match decide (k = k') with
    | true => (∀ r, r < n → f r = g r) ∧ K
    | false => False
  | .s f, .s g => (∀ r, r < n → f r = g r) ∧ K
  | .b f, .b g => (∀ r, r < n → f r = g r) ∧ K
  | _, _ => False
def colsEqK (n : Nat) : List Col → List Col → Prop → Prop
  | [], [], K => K
  | a :: l, b :: m, K => colEqK n a b (colsEqK n l m K)
  | _, _, _ => False
theorem colEqK_eq {n : Nat} {a b : Col} {K : Prop} (h : colEqK n a b K) : colEq n a b ∧ K := by
  unfold colEqK at h
  split at h
  · split at h
    · rename_i hk; exact ⟨⟨of_decide_eq_true hk, h.1⟩, h.2⟩
    · exact h.elim
  · exact h
  · exact h
  · exact h.elim
theorem colsEqK_eq {n : Nat} : ∀ {a b : List Col} {K : Prop}, colsEqK n a b K → colsEq n a b ∧ K
  | [], [], K, h => ⟨trivial, h⟩
  | a :: l, b :: m, K, h => by
    simp only [colsEqK] at h
    obtain ⟨h1, h2⟩ := colEqK_eq h
    obtain ⟨h2, h3⟩ := colsEqK_eq h2
    exact ⟨⟨h1, h2⟩, h3⟩
  | [], _ :: _, K, h => by simp [colsEqK] at h
  | _ :: _, [], K, h => by simp [colsEqK] at h
def blkLeK (a b : Blk) (K : Prop) : Prop :=
  match b with
  | .dead => K
  | .tab w' n' cols' => match a with
    | .tab w n cols => ob (!w' || w) (ob (Nat.ble n' n) (colsEqK n' cols cols' K))
    | .cells w l => ob (!w' || w) (preLeK l ((rowsL cols' n').map SV.v) K)
    | _ => False
  | .map w' pl' ks' g' => match a with
    | .map w _ ks g => ob (!w' || w) (ksEqK ks ks' (match pl' with
      | true => (∀ y ∈ ks'.vals, plainS (g' y) = true ∧ SV.le (g y) (g' y)) ∧ K
      | false => (∀ y ∈ ks'.vals, SV.le (g y) (g' y)) ∧ K))
    | _ => False
  | .cells w' l' => match a with
    | .cells w l => ob (!w' || w) (preLeK l l' K)
    | _ => False
  | .ints w' k' l' => match a with
    | .ints w k l => match decide (k = k') with
      | true => ob (!w' || w) (ob (l == l') K)
      | false => False
    | .cells w l => match toInts k' l with
      | some r => ob (!w' || w) (ob (r == l') K)
      | none => False
    | _ => False
theorem blkLeK_le {a b : Blk} {K : Prop} (h : blkLeK a b K) : blkLe a b ∧ K := by
  have hw : ∀ {w w' : Bool}, (!w' || w) = true → (w' = true → w = true) := by intro w w' h; cases w <;> cases w' <;> simp_all
  unfold blkLeK at h
  split at h
  · exact ⟨by simp [blkLe], h⟩
  · split at h
    · rw [ob_iff, ob_iff] at h
      obtain ⟨h1, h2⟩ := colsEqK_eq h.2.2
      exact ⟨by simp only [blkLe]; exact ⟨hw h.1, Nat.le_of_ble_eq_true h.2.1, h1⟩, h2⟩
    · rw [ob_iff] at h
      obtain ⟨h1, h2⟩ := preLeK_le _ _ _ h.2
      exact ⟨by simp only [blkLe]; exact ⟨hw h.1, h1⟩, h2⟩
    · exact h.elim
  · split at h
    · rw [ob_iff] at h
      obtain ⟨h1, h2⟩ := ksEqK_eq h.2
      split at h2
      · exact ⟨by simp only [blkLe]; exact ⟨hw h.1, h1, fun y hy => ⟨fun _ => (h2.1 y hy).1, (h2.1 y hy).2⟩⟩, h2.2⟩
      · exact ⟨by simp only [blkLe]; exact ⟨hw h.1, h1, fun y hy => ⟨fun hf => (by cases hf), h2.1 y hy⟩⟩, h2.2⟩
    · exact h.elim
  · split at h
    · rw [ob_iff] at h
      obtain ⟨h1, h2⟩ := preLeK_le _ _ _ h.2
      exact ⟨by simp only [blkLe]; exact ⟨hw h.1, h1⟩, h2⟩
    · exact h.elim
  · split at h
    · split at h
      · rename_i hk
        simp only [ob_iff, beq_iff_eq] at h
        exact ⟨by simp only [blkLe]; exact ⟨hw h.1, of_decide_eq_true hk, (by rw [h.2.1]; exact List.prefix_refl _)⟩, h.2.2⟩
      · exact h.elim
    · split at h
      · rename_i r hr
        simp only [ob_iff, beq_iff_eq] at h
        exact ⟨by simp only [blkLe, hr]; exact ⟨hw h.1, (by rw [h.2.1]; exact List.prefix_refl _)⟩, h.2.2⟩
      · exact h.elim
    · exact h.elim
def tblLeK : List Blk → List Blk → Prop → Prop
  | _, [], K => K
  | a :: l, b :: m, K => blkLeK a b (tblLeK l m K)
  | [], b :: m, K => emptyB b ∧ tblLeK [] m K
theorem tblLeK_le : ∀ (l m : List Blk) (K : Prop), tblLeK l m K → tblLe l m ∧ K
  | l, [], K, h => by cases l <;> exact ⟨by simp [tblLe], by simpa [tblLeK] using h⟩
  | a :: l, b :: m, K, h => by
    simp only [tblLeK] at h
    obtain ⟨h1, h2⟩ := blkLeK_le h
    obtain ⟨h2, h3⟩ := tblLeK_le l m _ h2
    simp only [tblLe]; exact ⟨⟨h1, h2⟩, h3⟩
  | [], b :: m, K, h => by
    simp only [tblLeK] at h
    obtain ⟨h2, h3⟩ := tblLeK_le [] m _ h.2
    simp only [tblLe]; exact ⟨⟨h.1, h2⟩, h3⟩
def Blk.lt (n : Nat) : Blk → Bool
  | .cells _ l => SV.ltL n l
  | .map _ pl ks g => match pl with
    | true => true
    | false => !anyK (fun k => !(g k).lt n) ks.vals
  | _ => true
mutual
theorem plainS_lt {n : Nat} : ∀ (s : SV), plainS s = true → s.lt n = true
  | .v _, _ => rfl
  | .ia _ _, _ => rfl
  | .unk, _ => rfl
  | .agg l, h => by simp only [plainS] at h; simp only [SV.lt]; exact plainL_lt l h
  | .ptr _ _, h | .slc _ _ _ _ _, h | .tup _, h | .fn _ _ _, h | .mp _, h | .ifc _ _, h | .pix _ _ _ _ _, h => by simp [plainS] at h
theorem plainL_lt {n : Nat} : ∀ (l : List SV), plainL l = true → SV.ltL n l = true
  | [], _ => rfl
  | a :: l, h => by
    simp only [plainL, Bool.and_eq_true] at h
    simp only [SV.ltL, plainS_lt a h.1, plainL_lt l h.2, Bool.and_self]
end
def tblLt (n : Nat) : List Blk → Bool
  | [] => true
  | b :: r => b.lt n && tblLt n r
def envLt (n : Nat) : Env → Bool
  | [] => true
  | (_, s) :: r => s.lt n && envLt n r
def envLe (env : Env) : Env → Prop
  | [] => True
  | (t, s) :: r => (match look env t with | some x => SV.le x s | none => False) ∧ envLe env r
def envLeK (env : Env) : Env → Prop → Prop
  | [], K => K
  | (t, s) :: r, K => match look env t with
    | some x => SV.leK x s (envLeK env r K)
    | none => False
theorem envLeK_le {env : Env} : ∀ (e : Env) (K : Prop), envLeK env e K → envLe env e ∧ K
  | [], K, h => ⟨by simp [envLe], by simpa [envLeK] using h⟩
  | (t, s) :: r, K, h => by
    simp only [envLeK] at h
    split at h
    · rename_i x hx
      obtain ⟨h1, h2⟩ := SV.leK_le s _ _ h
      obtain ⟨h2, h3⟩ := envLeK_le r _ h2
      simp only [envLe, hx]; exact ⟨⟨h1, h2⟩, h3⟩
    · exact h.elim
def subB : List Nat → List Nat → Bool
  | [], _ => true
  | i :: r, m => mem m i && subB r m
/-- All that a state is told to be, is. The last limbs are left to be shown. -/
def stLe (st st' : St) (K : Prop) : Prop :=
  match Nat.beq st.nt st'.nt, Nat.beq st.n0 st'.n0, Nat.ble st'.n0 st'.tbl.length, subB st.mv st'.mv, envLt st'.tbl.length st'.env && tblLt st'.tbl.length st'.tbl with
  | true, true, true, true, true => envLeK st.env st'.env (tblLeK st.tbl st'.tbl K)
  | _, _, _, _, _ => False

theorem subB_spec : ∀ {l m : List Nat} {i : Nat}, subB l m = true → i ∈ l → i ∈ m
  | [], m, i, _, h => by simp at h
  | j :: r, m, i, h, hi => by
    simp only [subB, Bool.and_eq_true] at h
    rcases List.mem_cons.1 hi with rfl | hi
    · exact (mem_iff _ _).1 h.1
    · exact subB_spec h.2 hi
theorem tblLt_get {n : Nat} : ∀ {l : List Blk} {i : Nat} {b : Blk}, tblLt n l = true → l[i]? = some b → b.lt n = true
  | [], i, b, _, h => by simp at h
  | c :: r, 0, b, hl, h => by simp only [tblLt, Bool.and_eq_true] at hl; simp at h; subst h; exact hl.1
  | c :: r, i + 1, b, hl, h => by simp only [tblLt, Bool.and_eq_true] at hl; exact tblLt_get hl.2 (by simpa using h)
theorem look_mem : ∀ {env : Env} {t : Nat} {s : SV}, look env t = some s → (t, s) ∈ env
  | [], t, s, h => by simp [look] at h
  | (k, x) :: r, t, s, h => by
    simp only [look] at h
    split at h
    · rename_i hk
      have := Nat.eq_of_beq_eq_true hk; subst this
      simp at h; subst h; simp
    · exact List.mem_cons_of_mem _ (look_mem h)
theorem envLt_mem {n : Nat} : ∀ {env : Env} {t : Nat} {s : SV}, envLt n env = true → (t, s) ∈ env → s.lt n = true
  | [], t, s, _, h => by simp at h
  | (k, x) :: r, t, s, hl, h => by
    simp only [envLt, Bool.and_eq_true] at hl
    rcases List.mem_cons.1 h with h | h
    · cases h; exact hl.1
    · exact envLt_mem hl.2 h
theorem envLe_mem {env : Env} : ∀ {env' : Env} {t : Nat} {s : SV}, envLe env env' → (t, s) ∈ env' → ∃ x, look env t = some x ∧ SV.le x s
  | [], t, s, _, h => by simp at h
  | (k, x) :: r, t, s, hl, h => by
    simp only [envLe] at hl
    rcases List.mem_cons.1 h with h | h
    · cases h
      have h1 := hl.1
      split at h1
      · rename_i y hy; exact ⟨y, hy, h1⟩
      · exact h1.elim
    · exact envLe_mem hl.2 h
theorem tblLe_get : ∀ {l m : List Blk} {i : Nat} {c : Blk}, tblLe l m → m[i]? = some c → (∃ b, l[i]? = some b ∧ blkLe b c) ∨ (l.length ≤ i ∧ emptyB c)
  | l, [], i, c, _, h => by simp at h
  | a :: l, b :: m, 0, c, hl, h => by simp only [tblLe] at hl; simp at h; subst h; exact .inl ⟨a, rfl, hl.1⟩
  | a :: l, b :: m, i + 1, c, hl, h => by
    simp only [tblLe] at hl
    rcases tblLe_get hl.2 (by simpa using h) with ⟨x, h1, h2⟩ | ⟨h1, h2⟩
    · exact .inl ⟨x, by simpa using h1, h2⟩
    · exact .inr ⟨by simp; omega, h2⟩
  | [], b :: m, 0, c, hl, h => by simp only [tblLe] at hl; simp at h; subst h; exact .inr ⟨by simp, hl.1⟩
  | [], b :: m, i + 1, c, hl, h => by
    simp only [tblLe] at hl
    rcases tblLe_get hl.2 (by simpa using h) with ⟨x, h1, h2⟩ | ⟨h1, h2⟩
    · simp at h1
    · exact .inr ⟨by simp, h2⟩
theorem preLe_rel {n : Nat} {ρ : Nat → Nat} {σ : Nat → Nat × Nat} : ∀ {m l : List SV} {u : List Value}, preLe l m → SV.ltL n m = true → RelL n ρ σ l u → RelL n ρ σ m (u.take m.length)
  | [], l, u, _, _, _ => by simp [RelL]
  | b :: m, [], u, h, _, _ => by simp [preLe] at h
  | b :: m, a :: l, u, h, hl, hr => by
    simp only [preLe] at h
    simp only [RelL] at hr
    simp only [SV.ltL, Bool.and_eq_true] at hl
    obtain ⟨x, y, rfl, h1, h2⟩ := hr
    simp only [List.length_cons, List.take_succ_cons, RelL]
    exact ⟨x, _, rfl, SV.le_rel b a x h.1 hl.1 h1, preLe_rel h.2 hl.2 h2⟩

mutual
/-- The values that stay: those that speak of the blocks below n' alone. -/
theorem Rel.cutLe {n n' : Nat} {ρ ρ' : Nat → Nat} {σ σ' : Nat → Nat × Nat} (hr : ∀ i, i < n → ρ' i = ρ i ∧ σ' i = σ i) (hph : ∀ i, n ≤ i → (σ' i).1 = 0) : ∀ (b a : SV) (u : Value), SV.le a b → b.lt n' = true → Rel n ρ σ a u → Rel n' ρ' σ' b u
  | .unk, a, u, _, _, _ => by simp [Rel]
  | .v y, a, u, h, _, hr' => by
    cases a <;> simp only [SV.le] at h
    rw [← veq_eq h]; simpa [Rel] using hr'
  | .ptr i' o', a, u, h, hl, hr' => by
    cases a <;> simp only [SV.le] at h
    obtain ⟨rfl, rfl⟩ := h; exact Rel.cut hr _ u hl hr'
  | .slc i' o' l' c' s', a, u, h, hl, hr' => by
    cases a <;> simp only [SV.le] at h
    · rename_i x
      split at h
      · rename_i hx
        obtain ⟨rfl, rfl⟩ := h
        have := isNilS_eq hx
        subst this
        simp only [Rel] at hr' ⊢
        simp only [SV.lt] at hl
        exact ⟨Nat.le_of_ble_eq_true hl, by omega, .inl ⟨hr', by trivial⟩⟩
      · exact h.elim
    · obtain ⟨rfl, rfl, rfl, h1, h2, rfl⟩ := h
      simp only [Rel] at hr' ⊢
      simp only [SV.lt] at hl
      obtain ⟨h3, h4, h5⟩ := hr'
      refine ⟨Nat.le_of_ble_eq_true hl, h2, ?_⟩
      rw [(hr _ h3).1, (hr _ h3).2]
      rcases h5 with ⟨h6, h7, h8⟩ | ⟨o', c0, h6, h7, h8⟩
      · exact .inl ⟨h6, h7, by omega⟩
      · exact .inr ⟨o', c0, h6, by omega, h8⟩
  | .ia k' l', a, u, h, _, hr' => by
    cases a <;> simp only [SV.le] at h
    · split at h
      · rename_i r hr2
        subst h
        simp only [Rel] at hr' ⊢
        obtain ⟨cs, rfl, h⟩ := hr'
        have := toInts_rel hr2 h
        rw [← this]
      · exact h.elim
    · obtain ⟨rfl, rfl⟩ := h; simpa [Rel] using hr'
  | .agg l', a, u, h, hl, hr' => by
    cases a <;> simp only [SV.le] at h
    simp only [Rel] at hr' ⊢
    simp only [SV.lt] at hl
    obtain ⟨cs, rfl, hr'⟩ := hr'
    exact ⟨cs, rfl, RelL.cutLe hr hph l' _ _ h hl hr'⟩
  | .tup l', a, u, h, hl, hr' => by
    cases a <;> simp only [SV.le] at h
    simp only [Rel] at hr' ⊢
    simp only [SV.lt] at hl
    obtain ⟨cs, rfl, hr'⟩ := hr'
    exact ⟨cs, rfl, RelL.cutLe hr hph l' _ _ h hl hr'⟩
  | .fn f' a' b', a, u, h, hl, hr' => by
    cases a <;> simp only [SV.le] at h
    obtain ⟨rfl, h1, h2⟩ := h
    simp only [Rel] at hr' ⊢
    simp only [SV.lt, Bool.and_eq_true] at hl
    obtain ⟨x, y, rfl, h3, h4⟩ := hr'
    exact ⟨x, y, rfl, RelL.cutLe hr hph a' _ _ h1 hl.1 h3, RelL.cutLe hr hph b' _ _ h2 hl.2 h4⟩
  | .mp i', a, u, h, hl, hr' => by
    cases a <;> simp only [SV.le] at h
    subst h; exact Rel.cut hr _ u hl hr'
  | .ifc t' s', a, u, h, hl, hr' => by
    cases a <;> simp only [SV.le] at h
    obtain ⟨rfl, h1⟩ := h
    simp only [Rel] at hr' ⊢
    simp only [SV.lt] at hl
    obtain ⟨x, rfl, h3⟩ := hr'
    exact ⟨x, rfl, Rel.cutLe hr hph s' _ _ h1 hl h3⟩
  | .pix i' o' s' x' c', a, u, h, hl, hr' => by
    cases a <;> simp only [SV.le] at h
    obtain ⟨rfl, rfl, rfl, rfl, rfl⟩ := h; exact Rel.cut hr _ u hl hr'
theorem RelL.cutLe {n n' : Nat} {ρ ρ' : Nat → Nat} {σ σ' : Nat → Nat × Nat} (hr : ∀ i, i < n → ρ' i = ρ i ∧ σ' i = σ i) (hph : ∀ i, n ≤ i → (σ' i).1 = 0) : ∀ (b a : List SV) (u : List Value), SV.leL a b → SV.ltL n' b = true → RelL n ρ σ a u → RelL n' ρ' σ' b u
  | [], a, u, h, _, hr' => by cases a <;> simp only [SV.leL] at h; simpa [RelL] using hr'
  | b :: m, a, u, h, hl, hr' => by
    cases a <;> simp only [SV.leL] at h
    simp only [RelL] at hr' ⊢
    simp only [SV.ltL, Bool.and_eq_true] at hl
    obtain ⟨x, y, rfl, h1, h2⟩ := hr'
    exact ⟨x, y, rfl, Rel.cutLe hr hph b _ x h.1 hl.1 h1, RelL.cutLe hr hph m _ y h.2 hl.2 h2⟩
end
theorem preLe_cut {n n' : Nat} {ρ ρ' : Nat → Nat} {σ σ' : Nat → Nat × Nat} (hr : ∀ i, i < n → ρ' i = ρ i ∧ σ' i = σ i) (hph : ∀ i, n ≤ i → (σ' i).1 = 0) : ∀ {m l : List SV} {u : List Value}, preLe l m → SV.ltL n' m = true → RelL n ρ σ l u → RelL n' ρ' σ' m (u.take m.length)
  | [], l, u, _, _, _ => by simp [RelL]
  | b :: m, [], u, h, _, _ => by simp [preLe] at h
  | b :: m, a :: l, u, h, hl, hr' => by
    simp only [preLe] at h
    simp only [RelL] at hr'
    simp only [SV.ltL, Bool.and_eq_true] at hl
    obtain ⟨x, y, rfl, h1, h2⟩ := hr'
    simp only [List.length_cons, List.take_succ_cons, RelL]
    exact ⟨x, _, rfl, Rel.cutLe hr hph b a x h.1 hl.1 h1, preLe_cut hr hph h.2 hl.2 h2⟩

theorem TOK.le {ρ : Nat → Nat} {σ : Nat → Nat × Nat} {B : Base} {t t' : List Blk} {w : World} (hT : TOK ρ σ B t w) (h7 : tblLe t t') (h5' : tblLt t'.length t' = true) : TOK ρ (fun i => if i < t.length then σ i else (0, 0)) B t' w := by
  have hmap : ∀ i c, t'[i]? = some c → c.isMap = true → ∃ b, t[i]? = some b ∧ b.isMap = true ∧ (c.mw = true → b.mw = true) ∧ ∀ o, MapB t.length ρ σ b o → MapB t'.length ρ (fun i => if i < t.length then σ i else (0, 0)) c o := fun i c hi hm => by
    rcases tblLe_get h7 hi with ⟨b, hb, hle⟩ | ⟨_, he⟩
    · cases c with
      | map w' pl' ks' g' =>
        cases b <;> simp only [blkLe] at hle
        rename_i wb plb ksb gb
        obtain ⟨hw, hks, hall⟩ := hle
        refine ⟨_, hb, rfl, hw, fun o ho => ?_⟩
        obtain ⟨es, clock, h1, h2, h3, h4, h5, h6, _⟩ := ho
        have hclt := tblLt_get h5' hi
        have h2 := ksEq_is hks h2
        refine ⟨es, clock, h1, h2, h3, fun e he => ?_, h5, h6, fun hp y hy => plainS_refs _ ((hall y hy).1 hp)⟩
        have hk : e.key ∈ ks'.vals := h2.mem (List.mem_map_of_mem he)
        obtain ⟨g1, g2⟩ := hall e.key hk
        refine Rel.cutLe (fun j hj => ⟨rfl, by simp [hj]⟩) (fun j hj => by simp [Nat.not_lt.2 hj]) _ _ _ g2 ?_ (h4 e he)
        cases pl' with
        | true => exact plainS_lt _ (g1 rfl)
        | false =>
          simp only [Blk.lt, Bool.not_eq_true'] at hclt
          cases hc : (g' e.key).lt t'.length with
          | true => rfl
          | false =>
            have := anyK_iff (p := fun k => !(g' k).lt t'.length).2 ⟨e.key, hk, by simp [hc]⟩
            rw [hclt] at this; cases this
      | _ => cases hm
    · cases c <;> first | exact False.elim he | cases hm
  have hlive : ∀ i c, t'[i]? = some c → c.isDead = false → (if i < t.length then σ i else (0, 0)).1 ≠ 0 → ∃ b, t[i]? = some b ∧ blkLe b c ∧ b.isDead = false ∧ (σ i).1 ≠ 0 ∧ (c.wr = true → b.wr = true) := fun i c hi hd hs => by
    have hlt : i < t.length := by
      rcases Nat.lt_or_ge i t.length with h | h
      · exact h
      · simp [Nat.not_lt.2 h] at hs
    rcases tblLe_get h7 hi with ⟨b, hb, hle⟩ | ⟨hb, _⟩
    · refine ⟨b, hb, hle, ?_, by simpa [hlt] using hs, fun hw => ?_⟩
      · cases c <;> cases b <;> simp_all [blkLe, Blk.isDead]
      · cases c <;> cases b <;> simp only [blkLe, Blk.wr] at hle hw ⊢
        all_goals first | exact hle.1 hw | (split at hle <;> first | exact hle.1 hw | exact hle.elim) | cases hw
    · omega
  refine ⟨hT.gl, hT.fr, fun i c hi hd => ?_, fun i c hi hd hs => ?_, fun i c hi hd hs => ?_, fun i j c d hi hj hc hd hx hsi hsj he => ?_, ?_⟩
  rotate_left 4
  · refine hT.mok.via id (fun i c hi hm => ?_) (fun _ _ _ _ _ _ _ _ h => h)
    obtain ⟨b, h1, h2, h3, h4⟩ := hmap i c hi hm
    exact ⟨b, h1, h2, rfl, rfl, h4, h3, fun h => h, fun _ h => h⟩
  · rcases tblLe_get h7 hi with ⟨b, hb, hle⟩ | ⟨hb, he⟩
    · have hlt : i < t.length := (List.getElem?_eq_some_iff.1 hb).1
      have hbd : b.isDead = false := by cases c <;> cases b <;> simp_all [blkLe, Blk.isDead]
      simp only [hlt, if_true]
      have hclt := tblLt_get h5' hi
      have hag' : ∀ j, j < t.length → ρ j = ρ j ∧ (if j < t.length then σ j else (0, 0)) = σ j := fun j hj => ⟨rfl, by simp [hj]⟩
      have hph : ∀ j, t.length ≤ j → (if j < t.length then σ j else (0, 0)).1 = 0 := fun j hj => by simp [Nat.not_lt.2 hj]
      have hpre : ∀ u, Pre t.length ρ σ b u → Pre t'.length ρ (fun i => if i < t.length then σ i else (0, 0)) c (u.take c.len) := fun u hu => by
        cases c with
        | dead => cases hd
        | cells w' l' =>
          cases b <;> simp only [blkLe] at hle
          exact preLe_cut hag' hph hle.2 hclt hu
        | ints w' k' l' =>
          cases b <;> simp only [blkLe] at hle
          · split at hle
            · rename_i r hr
              have := toInts_rel hr hu
              rw [this]
              simp only [Pre, Blk.len]
              rw [← List.map_take, ← List.prefix_iff_eq_take.1 hle.2]
            · exact hle.elim
          · obtain ⟨_, rfl, hle⟩ := hle
            simp only [Pre] at hu ⊢
            subst hu
            simp only [Blk.len]
            rw [← List.map_take, ← List.prefix_iff_eq_take.1 hle]
        | tab w' n' cols' =>
          cases b <;> simp only [blkLe] at hle
          · have := preLe_cut hag' hph hle.2 (n' := t'.length) (by
              have gen : ∀ l : List Value, SV.ltL t'.length (l.map SV.v) = true := by
                intro l
                induction l with
                | nil => rfl
                | cons a l ih => simp only [List.map_cons, SV.ltL, SV.lt, ih, Bool.and_self]
              exact gen _) hu
            rw [List.length_map, rowsL_len, RelL.vs_iff] at this
            simp only [Pre, Blk.len]
            exact this
          · obtain ⟨_, hnn, hle⟩ := hle
            simp only [Pre] at hu ⊢
            subst hu
            simp only [Blk.len]
            rw [← (colsEq_row hle).1, rowsL_take _ hnn, colsEq_rows hle _ (Nat.le_refl _)]
        | map w' pl' ks' g' => cases hd
      have hlen : c.len ≤ b.len := by
        cases c with
        | dead => simp [Blk.len]
        | cells w' l' =>
          cases b <;> simp only [blkLe] at hle
          have gen : ∀ (m l : List SV), preLe l m → m.length ≤ l.length := by
            intro m
            induction m with
            | nil => intro l _; simp
            | cons b m ih => intro l h; cases l <;> simp only [preLe] at h; simp; exact ih _ h.2
          exact gen _ _ hle.2
        | ints w' k' l' =>
          cases b <;> simp only [blkLe] at hle
          · split at hle
            · rename_i r hr
              have gen : ∀ (l : List SV) (r : List Int), toInts k' l = some r → r.length = l.length := by
                intro l
                induction l with
                | nil => intro r h; simp [toInts] at h; subst h; rfl
                | cons a l ih =>
                  intro r h
                  unfold toInts at h
                  split at h
                  · simp at h; simp_all
                  · rename_i heq
                    simp at heq
                    obtain ⟨rfl, rfl⟩ := heq
                    split at h
                    · rename_i r' _ hr'
                      simp at h; subst h
                      simp [ih _ hr']
                    · cases h
                  · cases h
              simp only [Blk.len]
              rw [← gen _ _ hr]
              exact hle.2.length_le
            · exact hle.elim
          · simp only [Blk.len]; exact hle.2.2.length_le
        | tab w' n' cols' =>
          cases b <;> simp only [blkLe] at hle
          · have gen : ∀ (m l : List SV), preLe l m → m.length ≤ l.length := by
              intro m
              induction m with
              | nil => intro l _; simp
              | cons b m ih => intro l h; cases l <;> simp only [preLe] at h; simp; exact ih _ h.2
            have := gen _ _ hle.2
            rw [List.length_map, rowsL_len] at this
            exact this
          · obtain ⟨_, hnn, hle⟩ := hle
            simp only [Blk.len, (colsEq_row hle).1]; exact Nat.mul_le_mul_right _ hnn
        | map w' pl' ks' g' => cases hd
      rcases hT.lies i b hb hbd with ⟨g1, g2⟩ | ⟨pre, hp, hl⟩
      · exact .inl ⟨g1, by omega⟩
      · exact .inr ⟨_, hpre pre hp, hl.weaken c.len⟩
    · have hnlt : ¬ i < t.length := by omega
      left
      simp only [hnlt, if_false, true_and]
      cases c with
      | dead => cases hd
      | cells w l => cases l <;> simp only [emptyB] at he; rfl
      | ints w k l => simp only [emptyB, ob_iff, List.isEmpty_iff] at he; rw [he.1]; rfl
      | tab w n cols => simp only [emptyB, ob_iff] at he; have := Nat.eq_of_beq_eq_true he.1; subst this; simp [Blk.len]
      | map w pl ks g => cases hd
  · obtain ⟨b, hb, _, hbd, hs', _⟩ := hlive i c hi hd hs
    exact hT.dom i b hb hbd hs'
  · obtain ⟨b, hb, _, hbd, hs', hw⟩ := hlive i c hi (isDead_of_wr hd) hs
    exact hT.domw i b hb (hw hd) hs'
  · obtain ⟨b, hb, _, hbd, hs', hw1⟩ := hlive i c hi hc hsi
    obtain ⟨b', hb', _, hbd', hs'', hw2⟩ := hlive j d hj hd hsj
    refine hT.inj i j b b' hb hb' hbd hbd' ?_ hs' hs'' he
    rcases Bool.or_eq_true_iff.1 hx with h | h
    · rw [hw1 h, Bool.true_or]
    · rw [hw2 h, Bool.or_true]

theorem stLe_sound {B : Base} {ρ0 : Nat → Nat} {σ0 : Nat → Nat × Nat} {st st' : St} {a : Act} {w : World} {K : Prop} (h0 : SOK ds B ρ0 σ0 st a w) (h : stLe st st' K) : K ∧ SOK ds B ρ0 σ0 st' a w := by
  obtain ⟨ρ, σ, hE, hT, hn, hag⟩ := h0
  unfold stLe at h
  split at h
  · rename_i h1 h2 h3 h4 h5
    have h1 := Nat.eq_of_beq_eq_true h1
    have h2 := Nat.eq_of_beq_eq_true h2
    have h3 := Nat.le_of_ble_eq_true h3
    simp only [Bool.and_eq_true] at h5
    obtain ⟨h6, h⟩ := envLeK_le _ _ h
    obtain ⟨h7, hK⟩ := tblLeK_le _ _ _ h
    refine ⟨hK, ρ, fun i => if i < st.tbl.length then σ i else (0, 0), ?_, ?_, ⟨h3, by rw [← h2]; exact hn.2⟩, fun i hi hm => ?_⟩
    · refine ⟨by rw [← h1]; exact hE.size, hE.defers, fun t s hs => ?_⟩
      have hm := look_mem hs
      obtain ⟨x, hx, hle⟩ := envLe_mem h6 hm
      exact Rel.cutLe (fun i hi => ⟨rfl, by simp [hi]⟩) (fun i hi => by simp [Nat.not_lt.2 hi]) s x _ hle (envLt_mem h5.1 hm) (hE.get t x hx)
    · exact hT.le h7 h5.2
    · rw [← h2] at hi
      have hm' : i ∉ st.mv := fun hx => hm (subB_spec h4 hx)
      have h8 := hag i hi hm'
      have hlt : i < st.tbl.length := by omega
      exact ⟨h8.1, by simp [hlt, h8.2]⟩
  · exact h.elim

end Go.Proofs.YtmnenigmkfnciaaGreatDoor.Sx
