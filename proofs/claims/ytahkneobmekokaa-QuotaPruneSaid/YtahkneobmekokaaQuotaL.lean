/- The quota in plain lists: the program's accounts. No condition. -/
import Derived.Test.YtahkneobmekokaaSx12
import Derived.Test.YtahkneobmekokaaProg
import Derived.Test.YtahkneobmekokaaBase
import Derived.Test.YtahkneobmekokaaQuota0
import Derived.Test.YtahkneobmekokaaQuotaA
import Derived.Test.YtahkneobmekokaaQuotaB
import Derived.Test.YtahkneobmekokaaQuotaC
import Derived.Test.YtahkneobmekokaaQuotaD
import Derived.Test.YtahkneobmekokaaQuotaE
import Derived.Test.YtahkneobmekokaaQuotaF
namespace Go.Proofs.Ytahkneobmekokaa.Sx
open Go Go.Proofs
set_option maxRecDepth 100000
set_option linter.unusedSimpArgs false
set_option linter.unusedVariables false

abbrev PF := Int × Int
def fl2 : List PF → List Int
  | [] => []
  | p :: r => p.1 :: p.2 :: fl2 r
def sB : List PF → Int
  | [] => 0
  | p :: r => p.2 + sB r
def qOf (sp fi pr : Int) (P : Nat → List PF) : QS := ⟨sp, fi, pr, fun i => fl2 (P i), fun i => (P i).length, fun i => sB (P i)⟩
/-- What holds of the accounts. -/
structure VP (sp fi : Int) (P : Nat → List PF) : Prop where
  sp0 : 0 ≤ sp
  sp1 : sp ≤ 1048576
  fi1 : fi ≤ 32
  each : ∀ i p, p ∈ P i → 0 ≤ p.1 ∧ p.1 ≤ 63 ∧ 0 ≤ p.2
  sum : ∀ i, sB (P i) ≤ sp
  len : ∀ i, ((P i).length : Int) ≤ fi ∨ P i = []
theorem fl2_len : ∀ P : List PF, (fl2 P).length = P.length * 2
  | [] => rfl
  | p :: r => by simp only [fl2, List.length_cons, fl2_len r]; omega
theorem fl2_app : ∀ P Q : List PF, fl2 (P ++ Q) = fl2 P ++ fl2 Q
  | [], Q => rfl
  | p :: r, Q => by simp only [List.cons_append, fl2, fl2_app r Q]
theorem fl2_get : ∀ (P : List PF) (k : Nat), (fl2 P).getD (k * 2) 0 = (P.getD k (0, 0)).1 ∧ (fl2 P).getD (k * 2 + 1) 0 = (P.getD k (0, 0)).2
  | [], k => by simp [fl2]
  | p :: r, 0 => by simp [fl2]
  | p :: r, k + 1 => by
    have := fl2_get r k
    rw [show (k + 1) * 2 = k * 2 + 1 + 1 by omega, show k * 2 + 1 + 1 + 1 = k * 2 + 1 + 1 + 1 from rfl]
    simp only [fl2, List.getD_cons_succ]
    exact this
theorem fl2_take : ∀ (P : List PF) (k : Nat), (fl2 P).take (k * 2) = fl2 (P.take k)
  | [], k => by simp [fl2]
  | p :: r, 0 => by simp [fl2]
  | p :: r, k + 1 => by
    rw [show (k + 1) * 2 = k * 2 + 1 + 1 by omega]
    simp only [fl2, List.take_succ_cons, fl2_take r k]
theorem fl2_drop : ∀ (P : List PF) (k : Nat), (fl2 P).drop (k * 2) = fl2 (P.drop k)
  | [], k => by simp [fl2]
  | p :: r, 0 => by simp [fl2]
  | p :: r, k + 1 => by
    rw [show (k + 1) * 2 = k * 2 + 1 + 1 by omega]
    simp only [fl2, List.drop_succ_cons, fl2_drop r k]
theorem sB_app : ∀ P Q : List PF, sB (P ++ Q) = sB P + sB Q
  | [], Q => by simp [sB]
  | p :: r, Q => by simp only [List.cons_append, sB, sB_app r Q]; omega
theorem sB_nn : ∀ P : List PF, (∀ p ∈ P, 0 ≤ p.2) → 0 ≤ sB P
  | [], _ => by simp [sB]
  | p :: r, h => by
    have h1 := h p (by simp)
    have h2 := sB_nn r (fun x hx => h x (by simp [hx]))
    simp only [sB]; omega
theorem sB_mem : ∀ (P : List PF) (p : PF), (∀ p ∈ P, 0 ≤ p.2) → p ∈ P → p.2 ≤ sB P
  | q :: r, p, h, hp => by
    have h1 := h q (by simp)
    have h2 := sB_nn r (fun x hx => h x (by simp [hx]))
    simp only [sB]
    rcases List.mem_cons.1 hp with rfl | hp
    · omega
    · have := sB_mem r p (fun x hx => h x (by simp [hx])) hp; omega
theorem VP.okq {sp fi pr : Int} {P : Nat → List PF} (h : VP sp fi P) : okQ (qOf sp fi pr P) := by
  rw [okQ]
  refine ⟨h.fi1, fun i => ⟨fl2_len _, ?_⟩⟩
  have h1 := h.fi1
  rcases h.len i with h2 | h2
  · show (P i).length ≤ 32; omega
  · show (P i).length ≤ 32; rw [h2]; simp
/-- One account another one. -/
def upP (P : Nat → List PF) (c : Nat) (l : List PF) : Nat → List PF := fun i => match Nat.beq i c with | true => l | false => P i
theorem upP_c (P : Nat → List PF) (c : Nat) (l : List PF) : upP P c l c = l := by simp [upP, nbeq]
theorem upP_ne (P : Nat → List PF) {c i : Nat} (l : List PF) (h : i ≠ c) : upP P c l i = P i := by
  have : Nat.beq i c = false := by
    cases hb : Nat.beq i c
    · rfl
    · exact absurd (Nat.eq_of_beq_eq_true hb) h
  simp [upP, this]
theorem setQ_of (sp fi pr : Int) (P : Nat → List PF) (c : Nat) (l : List PF) : setQ (qOf sp fi pr P) c (fl2 l) l.length (sB l) = qOf sp fi pr (upP P c l) := by
  have h : ∀ {α : Type} (f : List PF → α), (fun i => match Nat.beq i c with | true => f l | false => f (P i)) = fun i => f (upP P c l i) := fun f => by
    funext i
    unfold upP
    cases Nat.beq i c <;> rfl
  have e1 := h fl2
  have e2 := h List.length
  have e3 := h sB
  show (⟨sp, fi, pr, _, _, _⟩ : QS) = ⟨sp, fi, pr, _, _, _⟩
  congr 1
theorem VP.nn {sp fi : Int} {P : Nat → List PF} (h : VP sp fi P) (i : Nat) : 0 ≤ sB (P i) := sB_nn _ (fun p hp => (h.each i p hp).2.2)
/-- Another account that keeps what holds. -/
theorem VP.up {sp fi : Int} {P : Nat → List PF} (h : VP sp fi P) (c : Nat) (l : List PF) (h1 : ∀ p ∈ l, 0 ≤ p.1 ∧ p.1 ≤ 63 ∧ 0 ≤ p.2) (h2 : sB l ≤ sp) (h3 : (l.length : Int) ≤ fi ∨ l = []) : VP sp fi (upP P c l) := by
  refine ⟨h.sp0, h.sp1, h.fi1, fun i p hp => ?_, fun i => ?_, fun i => ?_⟩
  · by_cases hi : i = c
    · subst hi; rw [upP_c] at hp; exact h1 p hp
    · rw [upP_ne _ _ hi] at hp; exact h.each i p hp
  · by_cases hi : i = c
    · subst hi; rw [upP_c]; exact h2
    · rw [upP_ne _ _ hi]; exact h.sum i
  · by_cases hi : i = c
    · subst hi; rw [upP_c]; exact h3
    · rw [upP_ne _ _ hi]; exact h.len i
/-! Charge -/
def okF (e b : Int) : Bool := decide (0 ≤ e) && (decide (e ≤ 63) && decide (0 ≤ b))
theorem mayF_eq (e b : Int) : mayF e b = okF e b := by rw [mayF, okF]
def cE (sp fi pr : Int) (P : Nat → List PF) (c e b : Int) : Int := if outC c = true ∨ okF e b = false then 1 else if b > sp - sB (P c.toNat) ∨ ((P c.toNat).length : Int) ≥ fi then 7 else if e ≤ pr then 11 else 0
theorem chgE_of {sp fi pr : Int} {P : Nat → List PF} (h : VP sp fi P) (c e b : Int) : chgE (qOf sp fi pr P) c e b = cE sp fi pr P c e b := by
  have h1 := h.nn c.toNat
  have h2 := h.sum c.toNat
  have h3 := h.sp1
  have h4 := h.sp0
  rw [chgE, cE, mayF_eq]
  show (if _ then _ else if b > IntKind.i64.wrap (sp - sB (P c.toNat)) ∨ ((P c.toNat).length : Int) ≥ fi then _ else if e ≤ pr then _ else _) = _
  rw [wrap_i64 _ (by omega) (by omega)]
def cP (sp fi pr : Int) (P : Nat → List PF) (c e b : Int) : Nat → List PF := if cE sp fi pr P c e b = 0 then upP P c.toNat (P c.toNat ++ [(e, b)]) else P
theorem cE_0 {sp fi pr : Int} {P : Nat → List PF} {c e b : Int} (h : cE sp fi pr P c e b = 0) : outC c = false ∧ 0 ≤ e ∧ e ≤ 63 ∧ 0 ≤ b ∧ b ≤ sp - sB (P c.toNat) ∧ ((P c.toNat).length : Int) < fi ∧ pr < e := by
  unfold cE at h
  split at h
  · cases h
  · rename_i h1
    rw [not_or] at h1
    have ho : outC c = false := by simpa using h1.1
    have hok : okF e b = true := by simpa using h1.2
    rw [okF, Bool.and_eq_true, Bool.and_eq_true, decide_eq_true_eq, decide_eq_true_eq, decide_eq_true_eq] at hok
    split at h
    · cases h
    · split at h
      · cases h
      · exact ⟨ho, by omega⟩
theorem chgR_of {sp fi pr : Int} {P : Nat → List PF} (h : VP sp fi P) (c e b : Int) : chgR (qOf sp fi pr P) c e b = qOf sp fi pr (cP sp fi pr P c e b) ∧ VP sp fi (cP sp fi pr P c e b) := by
  rw [chgR, chgE_of h, cP]
  split
  · rename_i h0
    obtain ⟨_, g1, g2, g3, g4, g5, _⟩ := cE_0 h0
    have h1 := h.nn c.toNat
    have h2 := h.sum c.toNat
    have h3 := h.sp1
    have e1 : sB (P c.toNat ++ [(e, b)]) = sB (P c.toNat) + b := by rw [sB_app]; simp [sB]
    constructor
    · rw [← setQ_of, chgQ]
      show setQ _ _ (fl2 (P c.toNat) ++ [e, b]) ((P c.toNat).length + 1) (IntKind.i64.wrap (sB (P c.toNat) + b)) = _
      rw [wrap_i64 _ (by omega) (by omega), fl2_app, e1, List.length_append]
      rfl
    · refine h.up _ _ (fun p hp => ?_) (by rw [e1]; omega) (.inl (by simp; omega))
      rcases List.mem_append.1 hp with hp | hp
      · exact h.each _ p hp
      · simp at hp; subst hp; exact ⟨g1, g2, g3⟩
  · exact ⟨rfl, h⟩
/-! Refund -/
theorem matF_of (P : List PF) (e b : Int) (k : Nat) (hk : k < P.length) : matF (fl2 P) e b k = decide (P.getD k (0, 0) = (e, b)) := by
  rw [matF, (fl2_get P k).1, (fl2_get P k).2]
  rw [Bool.eq_iff_iff]
  simp only [Bool.and_eq_true, beq_iff_eq, decide_eq_true_eq]
  constructor
  · rintro ⟨h1, h2⟩; rw [Prod.ext_iff]; exact ⟨h1.symm, h2.symm⟩
  · intro h; rw [h]; exact ⟨rfl, rfl⟩
theorem erase_at {α : Type} [BEq α] [LawfulBEq α] (d : α) : ∀ (P : List α) (x : α) (i : Nat), i < P.length → (∀ j, j < i → P.getD j d ≠ x) → P.getD i d = x → P.take i ++ P.drop (i + 1) = P.erase x
  | p :: r, x, 0, _, _, h => by
    have : p = x := by simpa using h
    subst this; simp
  | p :: r, x, i + 1, hi, hn, h => by
    have h0 := hn 0 (by omega)
    have h0 : p ≠ x := by simpa using h0
    rw [List.erase_cons_tail (by simpa using h0)]
    simp only [List.take_succ_cons, List.drop_succ_cons, List.cons_append]
    rw [erase_at d r x i (by simpa using hi) (fun j hj => by have := hn (j + 1) (by omega); simpa using this) (by simpa using h)]
theorem not_mem_of {α : Type} [DecidableEq α] (d : α) (P : List α) (x : α) (h : ∀ j, j < P.length → P.getD j d ≠ x) : x ∉ P := by
  intro hx
  obtain ⟨j, hj, he⟩ := List.getElem_of_mem hx
  refine h j hj ?_
  rw [List.getD_eq_getElem?_getD, List.getElem?_eq_getElem hj]; exact he
theorem idx_of (P : List PF) (e b : Int) (hl : P.length ≤ 100000) : (idxZ (fl2 P) e b P.length < 0 ↔ (e, b) ∉ P) ∧ ((e, b) ∈ P → delL (fl2 P) (idxZ (fl2 P) e b P.length).toNat = fl2 (P.erase (e, b))) := by
  have hle := noM_le (fl2 P) e b P.length
  by_cases hlt : noM (fl2 P) e b P.length < P.length
  · have hz : idxZ (fl2 P) e b P.length = (noM (fl2 P) e b P.length : Int) := by rw [idxZ, if_pos hlt]
    have hy := noM_yes (fl2 P) e b P.length hlt
    rw [matF_of _ _ _ _ hlt, decide_eq_true_eq] at hy
    have hn : ∀ j, j < noM (fl2 P) e b P.length → P.getD j (0, 0) ≠ (e, b) := fun j hj => by
      have := noM_no (fl2 P) e b P.length j hj
      rw [matF_of _ _ _ _ (by omega), decide_eq_false_iff_not] at this
      exact this
    have hm : (e, b) ∈ P := by
      rw [← hy, List.getD_eq_getElem?_getD, List.getElem?_eq_getElem hlt]
      exact List.getElem_mem _
    refine ⟨⟨fun h => by rw [hz] at h; omega, fun h => absurd hm h⟩, fun _ => ?_⟩
    rw [hz, Int.toNat_natCast, delL, fl2_take, show noM (fl2 P) e b P.length * 2 + 2 = (noM (fl2 P) e b P.length + 1) * 2 by omega, fl2_drop, ← fl2_app, erase_at (0, 0) P (e, b) _ hlt hn hy]
  · have hz : idxZ (fl2 P) e b P.length = -1 := by rw [idxZ, if_neg hlt]
    have hm : (e, b) ∉ P := not_mem_of (0, 0) P (e, b) fun j hj => by
      have := noM_no (fl2 P) e b P.length j (by omega)
      rw [matF_of _ _ _ _ hj, decide_eq_false_iff_not] at this
      exact this
    exact ⟨⟨fun _ => hm, fun _ => by rw [hz]; decide⟩, fun h => absurd h hm⟩
theorem sB_erase : ∀ (P : List PF) (x : PF), x ∈ P → sB (P.erase x) = sB P - x.2
  | p :: r, x, h => by
    by_cases hp : p = x
    · subst hp; simp [sB]; omega
    · rw [List.erase_cons_tail (by simpa using hp)]
      have hx : x ∈ r := (List.mem_cons.1 h).resolve_left (fun e => hp e.symm)
      simp only [sB, sB_erase r x hx]; omega
def fE (P : Nat → List PF) (c e b : Int) : Int := if outC c = true ∨ okF e b = false then 1 else if (e, b) ∈ P c.toNat then 0 else 9
theorem VP.short {sp fi : Int} {P : Nat → List PF} (h : VP sp fi P) (i : Nat) : (P i).length ≤ 32 := by
  have h1 := h.fi1
  rcases h.len i with h2 | h2
  · omega
  · rw [h2]; simp
theorem rfE_of {sp fi pr : Int} {P : Nat → List PF} (h : VP sp fi P) (c e b : Int) : rfE (qOf sp fi pr P) c e b = fE P c e b := by
  have hs := h.short c.toNat
  have hi := (idx_of (P c.toNat) e b (by omega)).1
  rw [rfE, fE, mayF_eq]
  show (if _ then _ else if idxZ (fl2 (P c.toNat)) e b (P c.toNat).length < 0 then _ else _) = _
  split
  · rfl
  · by_cases hm : (e, b) ∈ P c.toNat
    · rw [if_pos hm, if_neg (fun hh => hi.1 hh hm)]
    · rw [if_neg hm, if_pos (hi.2 hm)]
def fP (P : Nat → List PF) (c e b : Int) : Nat → List PF := if fE P c e b = 0 then upP P c.toNat ((P c.toNat).erase (e, b)) else P
theorem fE_0 {P : Nat → List PF} {c e b : Int} (h : fE P c e b = 0) : outC c = false ∧ (e, b) ∈ P c.toNat := by
  unfold fE at h
  split at h
  · cases h
  · rename_i h1
    rw [not_or] at h1
    split at h
    · rename_i hm; exact ⟨by simpa using h1.1, hm⟩
    · cases h
theorem rfR_of {sp fi pr : Int} {P : Nat → List PF} (h : VP sp fi P) (c e b : Int) : rfR (qOf sp fi pr P) c e b = qOf sp fi pr (fP P c e b) ∧ VP sp fi (fP P c e b) := by
  rw [rfR, rfE_of h, fP]
  split
  · rename_i h0
    obtain ⟨_, hm⟩ := fE_0 h0
    have hs := h.short c.toNat
    have hi := (idx_of (P c.toNat) e b (by omega)).2 hm
    have h1 := h.nn c.toNat
    have h2 := h.sum c.toNat
    have h3 := h.sp1
    have he := h.each _ _ hm
    have hb := sB_mem (P c.toNat) (e, b) (fun p hp => (h.each _ p hp).2.2) hm
    simp only at he hb
    have e1 := sB_erase (P c.toNat) (e, b) hm
    simp only at e1
    have hlen : ((P c.toNat).erase (e, b)).length = (P c.toNat).length - 1 := List.length_erase_of_mem hm
    constructor
    · rw [← setQ_of, rfQ]
      show setQ _ _ (delL (fl2 (P c.toNat)) (idxZ (fl2 (P c.toNat)) e b (P c.toNat).length).toNat) ((P c.toNat).length - 1) (IntKind.i64.wrap (sB (P c.toNat) - b)) = _
      rw [wrap_i64 _ (by omega) (by omega), hi, e1, hlen]
    · refine h.up _ _ (fun p hp => h.each _ p (List.mem_of_mem_erase hp)) (by rw [e1]; omega) ?_
      rcases h.len c.toNat with h5 | h5
      · left; rw [hlen]; omega
      · rw [h5] at hm; cases hm
  · exact ⟨rfl, h⟩
/-! Prune -/
def kpP (e : Int) (P : List PF) : List PF := P.filter fun p => !decide (p.1 ≤ e)
def gnP (e : Int) (P : List PF) : List PF := P.filter fun p => decide (p.1 ≤ e)
theorem goB_of (P : List PF) (e : Int) (k : Nat) : goB (fl2 P) e k = decide ((P.getD k (0, 0)).1 ≤ e) := by rw [goB, (fl2_get P k).1]
theorem take_getD (P : List PF) (k : Nat) (h : k < P.length) : P.take (k + 1) = P.take k ++ [P.getD k (0, 0)] := by
  rw [List.take_succ_eq_append_getElem h, List.getD_eq_getElem?_getD, List.getElem?_eq_getElem h]; rfl
theorem kp_of (P : List PF) (e : Int) : ∀ j, j ≤ P.length → kp (fl2 P) e j = fl2 (kpP e (P.take j)) ∧ kc (fl2 P) e j = (kpP e (P.take j)).length
  | 0, _ => by rw [kp, kc]; simp [kpP, fl2]
  | j + 1, h => by
    obtain ⟨h1, h2⟩ := kp_of P e j (by omega)
    rw [kp, kc, goB_of, h1, h2, take_getD P j (by omega), (fl2_get P j).1, (fl2_get P j).2]
    unfold kpP
    rw [List.filter_append]
    by_cases hc : (P.getD j (0, 0)).1 ≤ e
    · simp only [hc, decide_true, if_true, List.filter_cons, List.filter_nil, Bool.not_true, Bool.false_eq_true, if_false, List.append_nil, and_self]
    · simp only [hc, decide_false, if_true, List.filter_cons, List.filter_nil, Bool.not_false, Bool.false_eq_true, if_false, fl2_app, fl2, List.length_append, List.length_cons, List.length_nil, and_self]
theorem gn_sum (e : Int) : ∀ P : List PF, sB P = sB (kpP e P) + sB (gnP e P) ∧ P.length = (kpP e P).length + (gnP e P).length
  | [] => by simp [kpP, gnP, sB]
  | p :: r => by
    obtain ⟨h1, h2⟩ := gn_sum e r
    unfold kpP gnP at *
    by_cases hc : p.1 ≤ e
    · simp only [List.filter_cons, hc, decide_true, Bool.not_true, Bool.false_eq_true, if_false, if_true, sB, List.length_cons]; omega
    · simp only [List.filter_cons, hc, decide_false, Bool.not_false, Bool.false_eq_true, if_false, if_true, sB, List.length_cons]; omega
theorem bW_of (P : List PF) (e b0 : Int) (hP : ∀ p ∈ P, 0 ≤ p.2) (hb : sB P ≤ b0) (hb1 : b0 ≤ 9000000000000000000) : ∀ j, j ≤ P.length → bW (fl2 P) e b0 j = b0 - sB (gnP e (P.take j))
  | 0, _ => by rw [bW]; simp [gnP, sB]
  | j + 1, h => by
    have ih := bW_of P e b0 hP hb hb1 j (by omega)
    have ht := take_getD P j (by omega)
    have h2 : ∀ p ∈ P.take (j + 1), 0 ≤ p.2 := fun p hp => hP p (List.mem_of_mem_take hp)
    have h3 := gn_sum e (P.take (j + 1))
    have h4 : 0 ≤ sB (kpP e (P.take (j + 1))) := sB_nn _ (fun p hp => h2 p (List.mem_filter.1 hp).1)
    have h5 : sB P = sB (P.take (j + 1)) + sB (P.drop (j + 1)) := by rw [← sB_app, List.take_append_drop]
    have h6 : 0 ≤ sB (P.drop (j + 1)) := sB_nn _ (fun p hp => hP p (List.mem_of_mem_drop hp))
    have h7 : 0 ≤ sB (gnP e (P.take (j + 1))) := sB_nn _ (fun p hp => h2 p (List.mem_filter.1 hp).1)
    rw [bW, goB_of, (fl2_get P j).2, ih]
    rw [ht] at h3 h4 h5 h7 ⊢
    unfold gnP at *
    rw [List.filter_append] at h3 h7 ⊢
    by_cases hc : (P.getD j (0, 0)).1 ≤ e
    · simp only [hc, decide_true, if_true, List.filter_cons, List.filter_nil, sB_app, sB] at h3 h5 h7 ⊢
      rw [wrap_i64 _ (by omega) (by omega)]; omega
    · simp only [hc, decide_false, Bool.false_eq_true, if_false, List.filter_cons, List.filter_nil, sB_app, sB] at h3 h7 ⊢
      omega
theorem cW_of (P : List PF) (e k0 : Int) (hk : 0 ≤ k0) (hk1 : k0 ≤ 1000000) (hl : P.length ≤ 1000000) : ∀ j, j ≤ P.length → cW (fl2 P) e k0 j = k0 + ((gnP e (P.take j)).length : Int)
  | 0, _ => by rw [cW]; simp [gnP]
  | j + 1, h => by
    have ih := cW_of P e k0 hk hk1 hl j (by omega)
    have h1 : (gnP e (P.take j)).length ≤ j := Nat.le_trans (List.length_filter_le _ _) (by simp; omega)
    rw [cW, goB_of, ih, take_getD P j (by omega)]
    unfold gnP at *
    rw [List.filter_append, List.length_append]
    by_cases hc : (P.getD j (0, 0)).1 ≤ e
    · simp only [hc, decide_true, if_true, List.filter_cons, List.filter_nil, List.length_cons, List.length_nil]
      rw [wrap_i64 _ (by omega) (by omega)]; omega
    · simp only [hc, decide_false, Bool.false_eq_true, if_false, List.filter_cons, List.filter_nil, List.length_nil]
      omega
def pP (P : Nat → List PF) (e : Int) (c : Nat) : Nat → List PF := fun i => if i < c then kpP e (P i) else P i
def nG (P : Nat → List PF) (e : Int) : Nat → Int
  | 0 => 0
  | c + 1 => nG P e c + ((gnP e (P c)).length : Int)
theorem nG_b {sp fi : Int} {P : Nat → List PF} (h : VP sp fi P) (e : Int) : ∀ c : Nat, 0 ≤ nG P e c ∧ nG P e c ≤ 32 * c
  | 0 => by simp [nG]
  | c + 1 => by
    have h1 := nG_b h e c
    have h2 : (gnP e (P c)).length ≤ (P c).length := List.length_filter_le _ _
    have h3 := h.short c
    simp only [nG]; omega
theorem prK_of {sp fi pr : Int} {P : Nat → List PF} (h : VP sp fi P) (e : Int) : ∀ c : Nat, c ≤ 16 → prK (qOf sp fi pr P) e c = nG P e c
  | 0, _ => by rw [prK, nG]
  | c + 1, hc => by
    have ih := prK_of (pr := pr) h e c (by omega)
    have h1 := nG_b h e c
    have h3 := h.short c
    rw [prK, ih, nG]
    show cW (fl2 (P c)) e (nG P e c) (P c).length = _
    rw [cW_of _ _ _ (by omega) (by omega) (by omega) _ (Nat.le_refl _), List.take_length]
theorem ble_lt (c i : Nat) : Nat.ble c i = !decide (i < c) := by
  rw [Bool.eq_iff_iff]
  simp only [Nat.ble_eq, Bool.not_eq_true', decide_eq_false_iff_not, Nat.not_lt]
theorem prU_of {sp fi pr : Int} {P : Nat → List PF} (h : VP sp fi P) (e : Int) (c : Nat) : prU (qOf sp fi pr P) e c = qOf sp fi pr (pP P e c) := by
  have e1 : ∀ i, kp (fl2 (P i)) e (P i).length = fl2 (kpP e (P i)) := fun i => by rw [(kp_of (P i) e _ (Nat.le_refl _)).1, List.take_length]
  have e2 : ∀ i, kc (fl2 (P i)) e (P i).length = (kpP e (P i)).length := fun i => by rw [(kp_of (P i) e _ (Nat.le_refl _)).2, List.take_length]
  have e3 : ∀ i, bW (fl2 (P i)) e (sB (P i)) (P i).length = sB (kpP e (P i)) := fun i => by
    have hs := h.sum i
    have h1 := h.sp1
    have hg := (gn_sum e (P i)).1
    rw [bW_of _ _ _ (fun p hp => (h.each i p hp).2.2) (by omega) (by omega) _ (Nat.le_refl _), List.take_length]; omega
  have f1 : (fun i => match Nat.ble c i with | true => fl2 (P i) | false => kp (fl2 (P i)) e (P i).length) = fun i => fl2 (pP P e c i) := by
    funext i; rw [ble_lt, e1, pP]; by_cases hi : i < c <;> simp [hi]
  have f2 : (fun i => match Nat.ble c i with | true => (P i).length | false => kc (fl2 (P i)) e (P i).length) = fun i => (pP P e c i).length := by
    funext i; rw [ble_lt, e2, pP]; by_cases hi : i < c <;> simp [hi]
  have f3 : (fun i => match Nat.ble c i with | true => sB (P i) | false => bW (fl2 (P i)) e (sB (P i)) (P i).length) = fun i => sB (pP P e c i) := by
    funext i; rw [ble_lt, e3, pP]; by_cases hi : i < c <;> simp [hi]
  show (⟨sp, fi, pr, _, _, _⟩ : QS) = ⟨sp, fi, pr, _, _, _⟩
  congr 1
theorem VP.pr {sp fi : Int} {P : Nat → List PF} (h : VP sp fi P) (e : Int) (c : Nat) : VP sp fi (pP P e c) := by
  refine ⟨h.sp0, h.sp1, h.fi1, fun i p hp => ?_, fun i => ?_, fun i => ?_⟩
  · unfold pP at hp
    split at hp
    · exact h.each i p (List.mem_filter.1 hp).1
    · exact h.each i p hp
  · unfold pP
    split
    · have h1 := (gn_sum e (P i)).1
      have h2 : 0 ≤ sB (gnP e (P i)) := sB_nn _ (fun p hp => (h.each i p (List.mem_filter.1 hp).1).2.2)
      have := h.sum i; omega
    · exact h.sum i
  · unfold pP
    split
    · have h1 : (kpP e (P i)).length ≤ (P i).length := List.length_filter_le _ _
      rcases h.len i with h2 | h2
      · left; omega
      · right; rw [h2]; rfl
    · exact h.len i
theorem prR_of {sp fi pr : Int} {P : Nat → List PF} (h : VP sp fi P) (e : Int) : prR (qOf sp fi pr P) e = qOf sp fi (mx pr e) (pP P e 16) := by
  rw [prR, prU_of h]; rfl
/-! What is told -/
def mB : List PF → Int
  | [] => 0
  | p :: r => max p.2 (mB r)
theorem mB_app : ∀ (P : List PF) (p : PF), mB (P ++ [p]) = max (mB P) p.2
  | [], p => by simp [mB]; omega
  | q :: r, p => by simp only [List.cons_append, mB, mB_app r p]; omega
theorem mostG_of (P : List PF) : ∀ k, k ≤ P.length → mostG (fl2 P) k = mB (P.take k)
  | 0, _ => by rw [mostG]; simp [mB]
  | k + 1, h => by
    rw [mostG, mostG_of P k (by omega), (fl2_get P k).2, take_getD P k (by omega), mB_app]
    unfold mx
    split <;> omega
def totP (P : Nat → List PF) : Nat → Int
  | 0 => 0
  | c + 1 => totP P c + sB (P c)
theorem totP_b {sp fi : Int} {P : Nat → List PF} (h : VP sp fi P) : ∀ c : Nat, 0 ≤ totP P c ∧ totP P c ≤ 1048576 * c
  | 0 => by simp [totP]
  | c + 1 => by
    have h1 := totP_b h c
    have h2 := h.nn c
    have h3 := h.sum c
    have h4 := h.sp1
    simp only [totP]; omega
theorem tot_of {sp fi pr : Int} {P : Nat → List PF} (h : VP sp fi P) : totW (qOf sp fi pr P) = totP P 16 := by
  have step : ∀ c : Nat, c < 16 → IntKind.i64.wrap (totP P c + sB (P c)) = totP P (c + 1) := fun c hc => by
    have h1 := totP_b h (c + 1)
    simp only [totP] at h1 ⊢
    rw [wrap_i64 _ (by omega) (by omega)]
  have h0 : totP P 0 = 0 := rfl
  rw [totW, r16]
  show IntKind.i64.wrap (IntKind.i64.wrap (IntKind.i64.wrap (IntKind.i64.wrap (IntKind.i64.wrap (IntKind.i64.wrap (IntKind.i64.wrap (IntKind.i64.wrap (IntKind.i64.wrap (IntKind.i64.wrap (IntKind.i64.wrap (IntKind.i64.wrap (IntKind.i64.wrap (IntKind.i64.wrap (IntKind.i64.wrap (IntKind.i64.wrap (totP P 0 + sB (P 0)) + sB (P 1)) + sB (P 2)) + sB (P 3)) + sB (P 4)) + sB (P 5)) + sB (P 6)) + sB (P 7)) + sB (P 8)) + sB (P 9)) + sB (P 10)) + sB (P 11)) + sB (P 12)) + sB (P 13)) + sB (P 14)) + sB (P 15)) = _
  rw [step 0 (by omega), step 1 (by omega), step 2 (by omega), step 3 (by omega), step 4 (by omega), step 5 (by omega), step 6 (by omega), step 7 (by omega), step 8 (by omega), step 9 (by omega), step 10 (by omega), step 11 (by omega), step 12 (by omega), step 13 (by omega), step 14 (by omega), step 15 (by omega)]
theorem new_of (a b : Int) : newQ a b = qOf (mn (mx a 0) 1048576) (mn (mx b 0) 32) (-1) (fun _ => []) ∧ VP (mn (mx a 0) 1048576) (mn (mx b 0) 32) (fun _ => []) := by
  refine ⟨rfl, ?_, ?_, ?_, fun i p hp => by simp at hp, fun i => ?_, fun i => .inr rfl⟩
  all_goals (unfold mn mx; try simp only [sB])
  all_goals ((repeat' split) <;> omega)

end Go.Proofs.Ytahkneobmekokaa.Sx
