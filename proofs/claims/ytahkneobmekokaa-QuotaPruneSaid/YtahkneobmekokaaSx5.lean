/- Calls in the walk by computation: what a function does, told for a table of its own; the same in a caller's table. No condition. -/
import Derived.Test.YtahkneobmekokaaSx4
namespace Go.Proofs.Ytahkneobmekokaa.Sx
open Go

/-- What a call of f does: K of its result, of the blocks behind it, of those among them that have moved. -/
def FnOK (P : Program) (f : FuncId) (args : List SV) (tbl : List Blk) (K : SV → List Blk → List Nat → Prop) : Prop :=
  ∀ (B : Base) (ρ : Nat → Nat) (σ : Nat → Nat × Nat) (as : Array Value) (w : World), RelL tbl.length ρ σ args as.toList → TOK ρ σ B tbl w →
    Calls P f as w fun e w' => ∃ s v tbl' mv ρ' σ', e = .returned v ∧ Rel tbl'.length ρ' σ' s v ∧ tbl.length ≤ tbl'.length ∧
      (∀ i, i < tbl.length → i ∉ mv → ρ' i = ρ i ∧ σ' i = σ i) ∧ TOK ρ' σ' B tbl' w' ∧ K s tbl' mv

theorem FnOK.mono {P : Program} {f : FuncId} {args : List SV} {tbl : List Blk} {K K' : SV → List Blk → List Nat → Prop} (h : FnOK P f args tbl K) (hK : ∀ s t m, K s t m → K' s t m) : FnOK P f args tbl K' :=
  fun B ρ σ as w hr hT => (h B ρ σ as w hr hT).mono fun _ _ ⟨s, v, t, m, ρ', σ', h1, h2, h3, h4, h5, h6⟩ => ⟨s, v, t, m, ρ', σ', h1, h2, h3, h4, h5, hK _ _ _ h6⟩

mutual
def SV.ren (m : Nat → Nat) : SV → SV
  | .v x => .v x
  | .ptr i o => .ptr (m i) o
  | .slc i o l c s => .slc (m i) o l c s
  | .agg l => .agg (SV.renL m l)
  | .ia k l => .ia k l
  | .tup l => .tup (SV.renL m l)
  | .fn f a b => .fn f (SV.renL m a) (SV.renL m b)
  | .unk => .unk
def SV.renL (m : Nat → Nat) : List SV → List SV
  | [] => []
  | a :: l => SV.ren m a :: SV.renL m l
end
theorem SV.renL_length (m : Nat → Nat) : ∀ l : List SV, (SV.renL m l).length = l.length
  | [] => rfl
  | a :: l => by simp [SV.renL, SV.renL_length m l]

mutual
theorem Rel.ren {n n' : Nat} {ρ ρ' : Nat → Nat} {σ σ' : Nat → Nat × Nat} {m : Nat → Nat} : ∀ (s : SV) (u : Value), (∀ i, i < n → s.refs i = true → m i < n' ∧ ρ' (m i) = ρ i ∧ σ' (m i) = σ i) → Rel n ρ σ s u → Rel n' ρ' σ' (s.ren m) u
  | .v x, u, _, h => by simpa [Rel, SV.ren] using h
  | .ptr i off, u, hr, h => by
    simp only [Rel, SV.ren] at h ⊢
    obtain ⟨h1, h2⟩ := h
    have := hr i h1 (by simp [SV.refs])
    exact ⟨this.1, by rw [this.2.1, this.2.2]; exact h2⟩
  | .slc i off len cp s, u, hr, h => by
    simp only [Rel, SV.ren] at h ⊢
    obtain ⟨h1, h2, h3⟩ := h
    have := hr i h1 (by simp [SV.refs])
    exact ⟨this.1, h2, by rw [this.2.1, this.2.2]; exact h3⟩
  | .agg l, u, hr, h => by
    simp only [Rel, SV.ren] at h ⊢
    obtain ⟨cs, h1, h2⟩ := h
    exact ⟨cs, h1, RelL.ren l _ (fun i hi hx => hr i hi (by simpa [SV.refs] using hx)) h2⟩
  | .ia k l, u, _, h => by simpa [Rel, SV.ren] using h
  | .tup l, u, hr, h => by
    simp only [Rel, SV.ren] at h ⊢
    obtain ⟨cs, h1, h2⟩ := h
    exact ⟨cs, h1, RelL.ren l _ (fun i hi hx => hr i hi (by simpa [SV.refs] using hx)) h2⟩
  | .fn f a b, u, hr, h => by
    simp only [Rel, SV.ren] at h ⊢
    obtain ⟨x, y, h1, h2, h3⟩ := h
    exact ⟨x, y, h1, RelL.ren a _ (fun i hi hx => hr i hi (by simp [SV.refs, hx])) h2, RelL.ren b _ (fun i hi hx => hr i hi (by simp [SV.refs, hx])) h3⟩
  | .unk, u, _, _ => by simp [Rel, SV.ren]
theorem RelL.ren {n n' : Nat} {ρ ρ' : Nat → Nat} {σ σ' : Nat → Nat × Nat} {m : Nat → Nat} : ∀ (s : List SV) (u : List Value), (∀ i, i < n → SV.refsL i s = true → m i < n' ∧ ρ' (m i) = ρ i ∧ σ' (m i) = σ i) → RelL n ρ σ s u → RelL n' ρ' σ' (SV.renL m s) u
  | [], u, _, h => by simpa [RelL, SV.renL] using h
  | a :: l, u, hr, h => by
    simp only [RelL, SV.renL] at h ⊢
    obtain ⟨b, m', h1, h2, h3⟩ := h
    exact ⟨b, m', h1, Rel.ren a b (fun i hi hx => hr i hi (by simp [SV.refsL, hx])) h2, RelL.ren l m' (fun i hi hx => hr i hi (by simp [SV.refsL, hx])) h3⟩
end

def Blk.ren (m : Nat → Nat) : Blk → Blk
  | .dead => .dead
  | .cells w l => .cells w (SV.renL m l)
  | .ints w k l => .ints w k l
def Blk.ro : Blk → Blk
  | .dead => .dead
  | .cells _ l => .cells false l
  | .ints _ k l => .ints false k l
theorem Pre.ren {n n' : Nat} {ρ ρ' : Nat → Nat} {σ σ' : Nat → Nat × Nat} {m : Nat → Nat} {b : Blk} {u : List Value} (hr : ∀ i, i < n → b.refs i = true → m i < n' ∧ ρ' (m i) = ρ i ∧ σ' (m i) = σ i) (h : Pre n ρ σ b u) : Pre n' ρ' σ' (b.ren m) u := by
  cases b with
  | dead => exact h.elim
  | cells w l => exact RelL.ren l u hr h
  | ints w k l => exact h
theorem Pre.ro {n : Nat} {ρ : Nat → Nat} {σ : Nat → Nat × Nat} {b : Blk} {u : List Value} (h : Pre n ρ σ b u) : Pre n ρ σ b.ro u := by cases b <;> exact h
@[simp] theorem Blk.ren_dead (m : Nat → Nat) (b : Blk) : (b.ren m).isDead = b.isDead := by cases b <;> rfl
@[simp] theorem Blk.ren_wr (m : Nat → Nat) (b : Blk) : (b.ren m).wr = b.wr := by cases b <;> rfl
@[simp] theorem Blk.ren_len (m : Nat → Nat) (b : Blk) : (b.ren m).len = b.len := by cases b <;> simp [Blk.ren, Blk.len, SV.renL_length]
@[simp] theorem Blk.ro_dead (b : Blk) : b.ro.isDead = b.isDead := by cases b <;> rfl
@[simp] theorem Blk.ro_wr (b : Blk) : b.ro.wr = false := by cases b <;> rfl
@[simp] theorem Blk.ro_len (b : Blk) : b.ro.len = b.len := by cases b <;> rfl
theorem Blk.ren_ro (m : Nat → Nat) (b : Blk) : (b.ren m).ro = b.ro.ren m := by cases b <;> rfl

/-! ### Which blocks a call sees -/
def mem : List Nat → Nat → Bool
  | [], _ => false
  | j :: r, i => match Nat.beq j i with | true => true | false => mem r i
def pos : List Nat → Nat → Nat
  | [], _ => 0
  | j :: r, i => match Nat.beq j i with | true => 0 | false => pos r i + 1
theorem beq_false {a b : Nat} (h : a ≠ b) : Nat.beq a b = false := by cases hb : Nat.beq a b with | false => rfl | true => exact absurd (Nat.eq_of_beq_eq_true hb) h
theorem mem_iff : ∀ (l : List Nat) (i : Nat), mem l i = true ↔ i ∈ l
  | [], i => by simp [mem]
  | j :: r, i => by
    by_cases e : j = i
    · subst e; simp [mem]
    · simp [mem, beq_false e, mem_iff r i, Ne.symm e]
theorem pos_get : ∀ (l : List Nat) (i : Nat), i ∈ l → l[pos l i]? = some i
  | [], i, h => by simp at h
  | j :: r, i, h => by
    by_cases e : j = i
    · subst e; simp [pos]
    · have : i ∈ r := by simpa [Ne.symm e] using h
      simp [pos, beq_false e, pos_get r i this]
theorem pos_of : ∀ (l : List Nat) (p i : Nat), l.Nodup → l[p]? = some i → pos l i = p
  | [], p, i, _, h => by simp at h
  | j :: r, 0, i, _, h => by simp at h; subst h; simp [pos]
  | j :: r, p + 1, i, hn, h => by
    simp at h
    have hi : i ∈ r := List.mem_of_getElem? h
    have e : j ≠ i := by rintro rfl; exact (List.nodup_cons.1 hn).1 hi
    simp [pos, beq_false e, pos_of r p i (List.nodup_cons.1 hn).2 h]

def nodupB : List Nat → Bool
  | [] => true
  | j :: r => !mem r j && nodupB r
theorem nodupB_iff : ∀ l, nodupB l = true → l.Nodup
  | [], _ => by simp
  | j :: r, h => by
    simp only [nodupB, Bool.and_eq_true, Bool.not_eq_true'] at h
    exact List.nodup_cons.2 ⟨fun hm => by rw [(mem_iff r j).2 hm] at h; simp at h, nodupB_iff r h.2⟩

mutual
def SV.within (js : List Nat) : SV → Bool
  | .v _ | .ia _ _ | .unk => true
  | .ptr i _ | .slc i _ _ _ _ => mem js i
  | .agg l | .tup l => SV.withinL js l
  | .fn _ a b => SV.withinL js a && SV.withinL js b
def SV.withinL (js : List Nat) : List SV → Bool
  | [] => true
  | a :: l => SV.within js a && SV.withinL js l
end
mutual
theorem SV.within_refs {js : List Nat} : ∀ (s : SV) (i : Nat), s.within js = true → s.refs i = true → i ∈ js
  | .v _, i, _, h => by simp [SV.refs] at h
  | .ia _ _, i, _, h => by simp [SV.refs] at h
  | .unk, i, _, h => by simp [SV.refs] at h
  | .ptr j _, i, hw, h => by simp only [SV.within, SV.refs] at hw h; have := Nat.eq_of_beq_eq_true h; subst this; exact (mem_iff _ _).1 hw
  | .slc j _ _ _ _, i, hw, h => by simp only [SV.within, SV.refs] at hw h; have := Nat.eq_of_beq_eq_true h; subst this; exact (mem_iff _ _).1 hw
  | .agg l, i, hw, h => by simp only [SV.within, SV.refs] at hw h; exact SV.withinL_refs l i hw h
  | .tup l, i, hw, h => by simp only [SV.within, SV.refs] at hw h; exact SV.withinL_refs l i hw h
  | .fn _ a b, i, hw, h => by
    simp only [SV.within, SV.refs, Bool.and_eq_true, Bool.or_eq_true] at hw h
    rcases h with h | h
    · exact SV.withinL_refs a i hw.1 h
    · exact SV.withinL_refs b i hw.2 h
theorem SV.withinL_refs {js : List Nat} : ∀ (s : List SV) (i : Nat), SV.withinL js s = true → SV.refsL i s = true → i ∈ js
  | [], i, _, h => by simp [SV.refsL] at h
  | a :: l, i, hw, h => by
    simp only [SV.withinL, SV.refsL, Bool.and_eq_true, Bool.or_eq_true] at hw h
    rcases h with h | h
    · exact SV.within_refs a i hw.1 h
    · exact SV.withinL_refs l i hw.2 h
end
def Blk.within (js : List Nat) : Blk → Bool
  | .cells _ l => SV.withinL js l
  | _ => true
theorem Blk.within_refs {js : List Nat} {b : Blk} {i : Nat} (h : b.within js = true) (hr : b.refs i = true) : i ∈ js := by
  cases b with
  | dead => simp [Blk.refs] at hr
  | cells w l => exact SV.withinL_refs l i h hr
  | ints w k l => simp [Blk.refs] at hr

mutual
def SV.adds (acc : List Nat) : SV → List Nat
  | .ptr i _ | .slc i _ _ _ _ => match mem acc i with | true => acc | false => acc ++ [i]
  | .agg l | .tup l => SV.addsL acc l
  | .fn _ a b => SV.addsL (SV.addsL acc a) b
  | _ => acc
def SV.addsL (acc : List Nat) : List SV → List Nat
  | [] => acc
  | a :: l => SV.addsL (SV.adds acc a) l
end
def Blk.adds (acc : List Nat) : Blk → List Nat
  | .cells _ l => SV.addsL acc l
  | _ => acc
/-- All blocks that are reached; the ones up to 'k' have been looked into. -/
def reach (tbl : List Blk) : Nat → Nat → List Nat → List Nat
  | 0, _, js => js
  | fuel + 1, k, js => match nth js k with
    | none => js
    | some j => match nth tbl j with
      | some b => reach tbl fuel (k + 1) (b.adds js)
      | none => reach tbl fuel (k + 1) js
def seen (tbl : List Blk) (args : List SV) : List Nat := match SV.addsL [] args with
  | [] => []
  | js => reach tbl (tbl.length + 1) 0 js
/-- The blocks of a call. -/
def pick (tbl : List Blk) (m : Nat → Nat) : List Nat → Option (List Blk)
  | [] => some []
  | j :: r => match nth tbl j, pick tbl m r with
    | some b, some l => some (b.ren m :: l)
    | _, _ => none
def pickOk (tbl : List Blk) (js : List Nat) : List Nat → Bool
  | [] => true
  | j :: r => (match nth tbl j with | some b => b.within js | none => false) && pickOk tbl js r
def okJs (tbl : List Blk) (args : List SV) (js : List Nat) : Bool := nodupB js && SV.withinL js args && pickOk tbl js js

theorem pick_get {tbl : List Blk} {m : Nat → Nat} : ∀ {js : List Nat} {bs : List Blk}, pick tbl m js = some bs → bs.length = js.length ∧ ∀ (p j : Nat), js[p]? = some j → ∃ b : Blk, tbl[j]? = some b ∧ bs[p]? = some (b.ren m)
  | [], bs, h => by simp [pick] at h; subst h; simp
  | j :: r, bs, h => by
    simp only [pick] at h
    split at h
    · rename_i b l hb hl
      simp at h; subst h
      obtain ⟨h1, h2⟩ := pick_get hl
      refine ⟨by simp [h1], fun p j' hp => ?_⟩
      cases p with
      | zero => simp at hp; subst hp; rw [nth_eq] at hb; exact ⟨b, hb, rfl⟩
      | succ p => simpa using h2 p j' (by simpa using hp)
    · cases h
theorem pickOk_get {tbl : List Blk} {js : List Nat} : ∀ {l : List Nat}, pickOk tbl js l = true → ∀ j ∈ l, ∃ b, tbl[j]? = some b ∧ b.within js = true
  | [], _, j, hj => by simp at hj
  | i :: r, h, j, hj => by
    simp only [pickOk, Bool.and_eq_true] at h
    rcases List.mem_cons.1 hj with rfl | hj
    · have h1 := h.1
      split at h1
      · rename_i b hb; rw [nth_eq] at hb; exact ⟨b, hb, h1⟩
      · cases h1
    · exact pickOk_get h.2 j hj

section
variable {P : Program} {ρ : Nat → Nat} {σ : Nat → Nat × Nat} {B : Base} {tbl : List Blk} {w : World}

/-- The callee's base. -/
def calleeBase (ρ : Nat → Nat) (σ : Nat → Nat × Nat) (tbl : List Blk) (js : List Nat) (w : World) : Base where
  A := (js.filter fun j => (σ j).1 != 0 && (match tbl[j]? with | some b => !b.isDead | none => false)).map ρ
  W := (js.filter fun j => (σ j).1 != 0 && (match tbl[j]? with | some b => b.wr | none => false)).map ρ
  w0 := w

/-- The callee's table holds. -/
theorem TOK.callee (h : TOK ρ σ B tbl w) {args : List SV} {js : List Nat} {bs : List Blk} (hj : okJs tbl args js = true) (hb : pick tbl (pos js) js = some bs) :
    TOK (fun p => ρ (js.getD p 0)) (fun p => σ (js.getD p 0)) (calleeBase ρ σ tbl js w) bs w := by
  simp only [okJs, Bool.and_eq_true] at hj
  obtain ⟨⟨hnd, hwa⟩, hpk⟩ := hj
  have hnd := nodupB_iff _ hnd
  obtain ⟨hlen, hget⟩ := pick_get hb
  have look : ∀ p c, bs[p]? = some c → ∃ j b, js[p]? = some j ∧ js.getD p 0 = j ∧ tbl[j]? = some b ∧ c = b.ren (pos js) ∧ b.within js = true := fun p c hp => by
    have hpl : p < js.length := by rw [← hlen]; exact (List.getElem?_eq_some_iff.1 hp).1
    have hj : js[p]? = some js[p] := by simp [hpl]
    obtain ⟨b, h1, h2⟩ := hget p _ hj
    obtain ⟨b', h3, h4⟩ := pickOk_get hpk js[p] (List.getElem_mem hpl)
    rw [h1] at h3; cases h3
    rw [h2] at hp
    exact ⟨js[p], b, hj, by simp [List.getD, hpl], h1, (Option.some.inj hp).symm, h4⟩
  refine ⟨Fr.refl _ _, fun p c hp hd => ?_, fun p c hp hd hs => ?_, fun p c hp hd hs => ?_, fun p q c d hp hq hc hd hsp hsq he => ?_⟩
  · obtain ⟨j, b, hj, hjD, hb1, rfl, hwi⟩ := look p c hp
    simp only [hjD]
    rcases h.lies j b hb1 (by simpa using hd) with ⟨h0, h1⟩ | ⟨pre, hp', hl⟩
    · exact .inl ⟨h0, by simpa using h1⟩
    · refine .inr ⟨pre, hp'.ren (fun i hi hr => ?_), hl⟩
      have him := Blk.within_refs hwi hr
      have := pos_get js i him
      refine ⟨by rw [hlen]; exact (List.getElem?_eq_some_iff.1 this).1, ?_, ?_⟩ <;> simp [List.getD, this]
  · obtain ⟨j, b, hj, hjD, hb1, rfl, hwi⟩ := look p c hp
    left
    simp only [hjD] at hs ⊢
    refine List.mem_map.2 ⟨j, List.mem_filter.2 ⟨List.mem_of_getElem? hj, ?_⟩, rfl⟩
    simp [hb1, hs]; simpa using hd
  · obtain ⟨j, b, hj, hjD, hb1, rfl, hwi⟩ := look p c hp
    left
    simp only [hjD] at hs ⊢
    refine List.mem_map.2 ⟨j, List.mem_filter.2 ⟨List.mem_of_getElem? hj, ?_⟩, rfl⟩
    simp [hb1, hs]; simpa using hd
  · obtain ⟨j, b, hj, hjD, hb1, rfl, hwi⟩ := look p c hp
    obtain ⟨j', b', hj', hjD', hb1', rfl, hwi'⟩ := look q d hq
    simp only [hjD, hjD'] at hsp hsq he
    have := h.inj j j' b b' hb1 hb1' (by simpa using hc) (by simpa using hd) hsp hsq he
    subst this
    exact (List.getElem?_inj (by exact (List.getElem?_eq_some_iff.1 hj).1) hnd).1 (by rw [hj, hj'])

theorem RelL.callee {args : List SV} {js : List Nat} {bs : List Blk} {u : List Value} (hj : okJs tbl args js = true) (hb : pick tbl (pos js) js = some bs) (h : RelL tbl.length ρ σ args u) :
    RelL bs.length (fun p => ρ (js.getD p 0)) (fun p => σ (js.getD p 0)) (SV.renL (pos js) args) u := by
  simp only [okJs, Bool.and_eq_true] at hj
  refine RelL.ren args u (fun i hi hr => ?_) h
  have him := SV.withinL_refs args i hj.1.2 hr
  have := pos_get js i him
  refine ⟨by rw [(pick_get hb).1]; exact (List.getElem?_eq_some_iff.1 this).1, ?_, ?_⟩ <;> simp [List.getD, this]

/-- Read-only, all of it. -/
theorem TOK.toRo (h : TOK ρ σ B tbl w) (hB : B.w0 = w) : TOK ρ σ { A := B.A, W := [], w0 := w } (tbl.map Blk.ro) w := by
  have look : ∀ (i : Nat) (c : Blk), (tbl.map Blk.ro)[i]? = some c → ∃ b, tbl[i]? = some b ∧ c = b.ro := fun i c hi => by
    rw [List.getElem?_map] at hi
    cases hb : tbl[i]? with
    | none => rw [hb] at hi; cases hi
    | some b => rw [hb] at hi; exact ⟨b, rfl, (Option.some.inj hi).symm⟩
  refine ⟨Fr.refl _ _, fun i c hi hd => ?_, fun i c hi hd hs => ?_, fun i c hi hd hs => ?_, fun i j c d hi hj hc hd hsp hsq he => ?_⟩
  · obtain ⟨b, hb, rfl⟩ := look i c hi
    rcases h.lies i b hb (by simpa using hd) with ⟨h0, h1⟩ | ⟨pre, hp, hl⟩
    · exact .inl ⟨h0, by simpa using h1⟩
    · exact .inr ⟨pre, by rw [List.length_map]; exact hp.ro, hl⟩
  · obtain ⟨b, hb, rfl⟩ := look i c hi
    have := h.dom i b hb (by simpa using hd) hs
    rwa [hB] at this
  · obtain ⟨b, hb, rfl⟩ := look i c hi
    simp at hd
  · obtain ⟨b, hb, rfl⟩ := look i c hi
    obtain ⟨b', hb', rfl⟩ := look j d hj
    exact h.inj i j b b' hb hb' (by simpa using hc) (by simpa using hd) hsp hsq he

/-- Where the callee's blocks stand in the caller's table. -/
def back (js : List Nat) (n : Nat) (i : Nat) : Nat := match nth js i with
  | some j => j
  | none => n + (i - js.length)
mutual
def SV.refsAny (mv : List Nat) : SV → Bool
  | .v _ | .ia _ _ | .unk => false
  | .ptr i _ | .slc i _ _ _ _ => mem mv i
  | .agg l | .tup l => SV.refsAnyL mv l
  | .fn _ a b => SV.refsAnyL mv a || SV.refsAnyL mv b
def SV.refsAnyL (mv : List Nat) : List SV → Bool
  | [] => false
  | a :: l => SV.refsAny mv a || SV.refsAnyL mv l
end
mutual
theorem SV.refsAny_false {mv : List Nat} : ∀ (s : SV) (i : Nat), s.refsAny mv = false → s.refs i = true → i ∉ mv
  | .v _, i, _, h => by simp [SV.refs] at h
  | .ia _ _, i, _, h => by simp [SV.refs] at h
  | .unk, i, _, h => by simp [SV.refs] at h
  | .ptr j _, i, hw, h => by simp only [SV.refsAny, SV.refs] at hw h; have := Nat.eq_of_beq_eq_true h; subst this; exact fun hm => by rw [(mem_iff _ _).2 hm] at hw; cases hw
  | .slc j _ _ _ _, i, hw, h => by simp only [SV.refsAny, SV.refs] at hw h; have := Nat.eq_of_beq_eq_true h; subst this; exact fun hm => by rw [(mem_iff _ _).2 hm] at hw; cases hw
  | .agg l, i, hw, h => by simp only [SV.refsAny, SV.refs] at hw h; exact SV.refsAnyL_false l i hw h
  | .tup l, i, hw, h => by simp only [SV.refsAny, SV.refs] at hw h; exact SV.refsAnyL_false l i hw h
  | .fn _ a b, i, hw, h => by
    simp only [SV.refsAny, SV.refs, Bool.or_eq_false_iff, Bool.or_eq_true] at hw h
    rcases h with h | h
    · exact SV.refsAnyL_false a i hw.1 h
    · exact SV.refsAnyL_false b i hw.2 h
theorem SV.refsAnyL_false {mv : List Nat} : ∀ (s : List SV) (i : Nat), SV.refsAnyL mv s = false → SV.refsL i s = true → i ∉ mv
  | [], i, _, h => by simp [SV.refsL] at h
  | a :: l, i, hw, h => by
    simp only [SV.refsAnyL, SV.refsL, Bool.or_eq_false_iff, Bool.or_eq_true] at hw h
    rcases h with h | h
    · exact SV.refsAny_false a i hw.1 h
    · exact SV.refsAnyL_false l i hw.2 h
end
/-- What told of a block that has moved tells nothing any more. -/
def SV.purge (mv : List Nat) (s : SV) : SV := match s.refsAny mv with | true => .unk | false => s
def Blk.purge (mv : List Nat) : Blk → Blk
  | .cells w l => match mv with
    | [] => .cells w l
    | _ => .cells w (l.map (SV.purge mv))
  | b => b
def purgeEnv (mv : List Nat) : Env → Env
  | [] => []
  | (t, s) :: r => (t, s.purge mv) :: purgeEnv mv r
@[simp] theorem Blk.purge_dead (mv : List Nat) (b : Blk) : (b.purge mv).isDead = b.isDead := by cases b <;> first | rfl | (cases mv <;> rfl)
@[simp] theorem Blk.purge_wr (mv : List Nat) (b : Blk) : (b.purge mv).wr = b.wr := by cases b <;> first | rfl | (cases mv <;> rfl)
@[simp] theorem Blk.purge_len (mv : List Nat) (b : Blk) : (b.purge mv).len = b.len := by cases b <;> first | rfl | (cases mv <;> simp [Blk.purge, Blk.len])

theorem Rel.purge {n n' : Nat} {ρ ρ' : Nat → Nat} {σ σ' : Nat → Nat × Nat} {mv : List Nat} (hn : n ≤ n') (hr : ∀ i, i < n → i ∉ mv → ρ' i = ρ i ∧ σ' i = σ i) {s : SV} {u : Value} (h : Rel n ρ σ s u) : Rel n' ρ' σ' (s.purge mv) u := by
  unfold SV.purge
  split
  · simp [Rel]
  · rename_i hf
    exact h.mono hn s u (fun i hi hx => hr i hi (SV.refsAny_false s i hf hx))
theorem RelL.purge {n n' : Nat} {ρ ρ' : Nat → Nat} {σ σ' : Nat → Nat × Nat} {mv : List Nat} (hn : n ≤ n') (hr : ∀ i, i < n → i ∉ mv → ρ' i = ρ i ∧ σ' i = σ i) : ∀ {l : List SV} {u : List Value}, RelL n ρ σ l u → RelL n' ρ' σ' (l.map (SV.purge mv)) u
  | [], u, h => by simpa [RelL] using h
  | a :: l, u, h => by
    simp only [RelL, List.map_cons] at h ⊢
    obtain ⟨b, m, h1, h2, h3⟩ := h
    exact ⟨b, m, h1, h2.purge hn hr, RelL.purge hn hr h3⟩
theorem Pre.purge {n n' : Nat} {ρ ρ' : Nat → Nat} {σ σ' : Nat → Nat × Nat} {mv : List Nat} (hn : n ≤ n') (hr : ∀ i, i < n → i ∉ mv → ρ' i = ρ i ∧ σ' i = σ i) {b : Blk} {u : List Value} (h : Pre n ρ σ b u) : Pre n' ρ' σ' (b.purge mv) u := by
  cases b with
  | dead => exact h.elim
  | cells w l =>
    cases mv with
    | nil => exact RelL.ext (s := l) h hn (fun i hi => hr i hi (by simp))
    | cons a r => exact RelL.purge hn hr h
  | ints w k l => exact h
theorem look_purge {mv : List Nat} : ∀ {env : Env} {t : Nat} {s : SV}, look (purgeEnv mv env) t = some s → ∃ s', look env t = some s' ∧ s = s'.purge mv
  | [], t, s, h => by simp [purgeEnv, look] at h
  | (k, x) :: r, t, s, h => by
    simp only [purgeEnv, look] at h ⊢
    split at h
    · exact ⟨x, rfl, (Option.some.inj h).symm⟩
    · exact look_purge h
theorem EOK.purge {n n' : Nat} {ρ ρ' : Nat → Nat} {σ σ' : Nat → Nat × Nat} {mv : List Nat} {env : Env} {nt : Nat} {a : Act} (h : EOK n ρ σ env nt a) (hn : n ≤ n') (hr : ∀ i, i < n → i ∉ mv → ρ' i = ρ i ∧ σ' i = σ i) : EOK n' ρ' σ' (purgeEnv mv env) nt a :=
  ⟨h.size, h.defers, fun t s hs => by
    obtain ⟨s', h1, rfl⟩ := look_purge hs
    exact (h.get t s' h1).purge hn hr⟩

/-- The caller's table behind the call. -/
def merge (js : List Nat) (n : Nat) (tc : List Blk) (mv : List Nat) : Nat → List Blk → List Blk
  | _, [] => (tc.drop js.length).map (Blk.ren (back js n))
  | i, b :: r => (match mem js i with
      | true => match nth tc (pos js i) with
        | some c => c.ren (back js n)
        | none => b
      | false => b.purge mv) :: merge js n tc mv (i + 1) r

theorem merge_get {js : List Nat} {n : Nat} {tc : List Blk} {mv : List Nat} : ∀ (tbl : List Blk) (i0 k : Nat),
    (merge js n tc mv i0 tbl)[k]? = if k < tbl.length then (match tbl[k]? with
      | some b => some (if (i0 + k) ∈ js then ((tc[pos js (i0 + k)]?).map (Blk.ren (back js n))).getD b else b.purge mv)
      | none => none) else ((tc.drop js.length)[k - tbl.length]?).map (Blk.ren (back js n))
  | [], i0, k => by simp [merge]
  | b :: r, i0, 0 => by
    simp only [merge, List.getElem?_cons_zero, List.length_cons, Nat.zero_lt_succ, if_true, Nat.add_zero]
    by_cases h : i0 ∈ js
    · rw [if_pos h, (mem_iff _ _).2 h]
      simp only [nth_eq]
      cases tc[pos js i0]? <;> rfl
    · rw [if_neg h]
      have : mem js i0 = false := by cases hb : mem js i0 with | false => rfl | true => exact absurd ((mem_iff _ _).1 hb) h
      rw [this]
  | b :: r, i0, k + 1 => by
    simp only [merge, List.getElem?_cons_succ, merge_get r (i0 + 1) k, List.length_cons]
    rw [show i0 + 1 + k = i0 + (k + 1) by omega]
    by_cases hk : k < r.length
    · rw [if_pos hk, if_pos (by omega)]
    · rw [if_neg hk, if_neg (by omega)]
      congr 2; omega
theorem merge_length {js : List Nat} {n : Nat} {tc : List Blk} {mv : List Nat} : ∀ (tbl : List Blk) (i0 : Nat), (merge js n tc mv i0 tbl).length = tbl.length + (tc.length - js.length)
  | [], _ => by simp [merge]
  | b :: r, i0 => by simp [merge, merge_length r (i0 + 1)]; omega

/-- THE FRAME: what a function does to blocks of its own table, it does to these in the caller's. -/
theorem FnOK.frame {f : FuncId} {args : List SV} {js : List Nat} {bs : List Blk} {K : SV → List Blk → List Nat → Prop} {as : Array Value}
    (hf : FnOK P f (SV.renL (pos js) args) bs K) (hj : okJs tbl args js = true) (hb : pick tbl (pos js) js = some bs) (hT : TOK ρ σ B tbl w) (ha : RelL tbl.length ρ σ args as.toList) :
    Calls P f as w fun e w' => ∃ s v tc mv ρ' σ', e = .returned v ∧ K s tc mv ∧ Rel (merge js tbl.length tc (mv.map (back js tbl.length)) 0 tbl).length ρ' σ' (s.ren (back js tbl.length)) v ∧
      tbl.length ≤ (merge js tbl.length tc (mv.map (back js tbl.length)) 0 tbl).length ∧
      (∀ i, i < tbl.length → i ∉ mv.map (back js tbl.length) → ρ' i = ρ i ∧ σ' i = σ i) ∧ TOK ρ' σ' B (merge js tbl.length tc (mv.map (back js tbl.length)) 0 tbl) w' := by
  have hTc := hT.callee hj hb
  have hac := RelL.callee hj hb ha
  have hj0 := hj
  simp only [okJs, Bool.and_eq_true] at hj0
  have hnd := nodupB_iff _ hj0.1.1
  have hpk := pickOk_get hj0.2
  obtain ⟨hlen, hget⟩ := pick_get hb
  refine (hf _ _ _ as w hac hTc).mono ?_
  rintro e w' ⟨s, v, tc, mv, ρ', σ', he, hrel, hle, hag, hT', hK⟩
  have hml := merge_length (js := js) (n := tbl.length) (tc := tc) (mv := mv.map (back js tbl.length)) tbl 0
  have hgm := merge_get (js := js) (n := tbl.length) (tc := tc) (mv := mv.map (back js tbl.length)) tbl 0
  simp only [Nat.zero_add] at hgm
  generalize hTd : merge js tbl.length tc (mv.map (back js tbl.length)) 0 tbl = T at hml hgm
  let ρ2 : Nat → Nat := fun i => if i < tbl.length then (if i ∈ js then ρ' (pos js i) else ρ i) else ρ' (js.length + (i - tbl.length))
  let σ2 : Nat → Nat × Nat := fun i => if i < tbl.length then (if i ∈ js then σ' (pos js i) else σ i) else σ' (js.length + (i - tbl.length))
  have jslt : ∀ j ∈ js, j < tbl.length := fun j hj => by obtain ⟨b, h1, _⟩ := hpk j hj; exact (List.getElem?_eq_some_iff.1 h1).1
  have backs : ∀ i, i < tc.length → back js tbl.length i < T.length ∧ ρ2 (back js tbl.length i) = ρ' i ∧ σ2 (back js tbl.length i) = σ' i := fun i hi => by
    unfold back
    rw [nth_eq]
    by_cases hlt : i < js.length
    · have h1 : js[i]? = some js[i] := by simp [hlt]
      have h2 := pos_of js i _ hnd h1
      have h3 := jslt js[i] (List.getElem_mem hlt)
      rw [h1]
      simp only [ρ2, σ2, h3, if_true, List.getElem_mem, h2, and_self, and_true]
      omega
    · have h1 : js[i]? = none := by simp; omega
      rw [h1]
      have h3 : ¬ tbl.length + (i - js.length) < tbl.length := by omega
      have h4 : js.length + (tbl.length + (i - js.length) - tbl.length) = i := by omega
      simp only [ρ2, σ2, h3, if_false, h4, and_self, and_true]
      omega
  have agree : ∀ i, i < tbl.length → i ∉ mv.map (back js tbl.length) → ρ2 i = ρ i ∧ σ2 i = σ i := fun i hi hm => by
    by_cases hij : i ∈ js
    · have h1 := pos_get js i hij
      have h2 : pos js i < js.length := (List.getElem?_eq_some_iff.1 h1).1
      have h3 : pos js i ∉ mv := fun hx => hm (List.mem_map.2 ⟨_, hx, by unfold back; rw [nth_eq, h1]⟩)
      have h4 := hag (pos js i) (by omega) h3
      simp only [ρ2, σ2, hi, hij, if_true, h4]
      simp [List.getD, h1]
    · simp [ρ2, σ2, hi, hij]
  -- each entry of the new table
  have cases3 : ∀ i c, T[i]? = some c → (i < tbl.length ∧ i ∉ js ∧ ∃ b, tbl[i]? = some b ∧ c = b.purge (mv.map (back js tbl.length)) ∧ ρ2 i = ρ i ∧ σ2 i = σ i) ∨
      (∃ p d, tc[p]? = some d ∧ c = d.ren (back js tbl.length) ∧ ρ2 i = ρ' p ∧ σ2 i = σ' p ∧ i = back js tbl.length p) := fun i c hi => by
    rw [hgm i] at hi
    by_cases hlt : i < tbl.length
    · rw [if_pos hlt] at hi
      have hb1 : tbl[i]? = some tbl[i] := by simp [hlt]
      rw [hb1] at hi
      by_cases hij : i ∈ js
      · right
        have h1 := pos_get js i hij
        have h2 : pos js i < js.length := (List.getElem?_eq_some_iff.1 h1).1
        have h3 : tc[pos js i]? = some tc[pos js i] := by simp
        simp only [hij, if_true, h3, Option.map_some, Option.getD_some, Option.some.injEq] at hi
        exact ⟨pos js i, _, h3, hi.symm, by simp [ρ2, hlt, hij], by simp [σ2, hlt, hij], by unfold back; rw [nth_eq, h1]⟩
      · left
        simp only [hij, if_false, Option.some.injEq] at hi
        exact ⟨hlt, hij, _, hb1, hi.symm, by simp [ρ2, hlt, hij], by simp [σ2, hlt, hij]⟩
    · right
      rw [if_neg hlt, List.getElem?_drop] at hi
      cases hd : tc[js.length + (i - tbl.length)]? with
      | none => rw [hd] at hi; cases hi
      | some d =>
        rw [hd] at hi
        refine ⟨_, d, hd, (Option.some.inj hi).symm, by simp [ρ2, hlt], by simp [σ2, hlt], ?_⟩
        unfold back
        have : js[js.length + (i - tbl.length)]? = none := by simp
        rw [nth_eq, this]
        show i = tbl.length + (js.length + (i - tbl.length) - js.length)
        omega
  refine ⟨s, v, tc, mv, ρ2, σ2, he, hK, ?_⟩
  rw [hTd]
  refine ⟨Rel.ren s v (fun i hi _ => backs i hi) hrel, by omega, agree, ?_⟩
  have oldblock : ∀ i b, tbl[i]? = some b → b.isDead = false → i ∉ js → (σ i).1 ≠ 0 → w'.heap[ρ i]? = w.heap[ρ i]? := fun i b hi hd hij hs => by
    refine hT'.fr.block (ρ i) (hT.lt hi hd hs) (fun hm => ?_)
    obtain ⟨j, hj1, hj2⟩ := List.mem_map.1 hm
    have hj3 := (List.mem_filter.1 hj1)
    simp at hj3
    obtain ⟨b', hb', _⟩ := hpk j hj3.1
    have hw' : b'.wr = true := by have := hj3.2.2; rw [hb'] at this; exact this
    have := hT.inj i j b b' hi hb' hd (isDead_of_wr hw') hs hj3.2.1 hj2.symm
    exact hij (this ▸ hj3.1)
  have domc : ∀ p d, tc[p]? = some d → d.isDead = false → (σ' p).1 ≠ 0 → (∃ j b, j ∈ js ∧ tbl[j]? = some b ∧ b.isDead = false ∧ (σ j).1 ≠ 0 ∧ ρ j = ρ' p) ∨ w.heap.size ≤ ρ' p := fun p d hp hd hs => by
    rcases hT'.dom p d hp hd hs with h1 | h1
    · obtain ⟨j, hj1, hj2⟩ := List.mem_map.1 h1
      have hj3 := (List.mem_filter.1 hj1)
      simp at hj3
      obtain ⟨b', hb', _⟩ := hpk j hj3.1
      exact .inl ⟨j, b', hj3.1, hb', by have := hj3.2.2; rw [hb'] at this; simpa using this, hj3.2.1, hj2⟩
    · exact .inr h1
  have apart : ∀ i b p d, tbl[i]? = some b → b.isDead = false → i ∉ js → (σ i).1 ≠ 0 → tc[p]? = some d → d.isDead = false → (σ' p).1 ≠ 0 → ρ i ≠ ρ' p := fun i b p d hi hd hij hs hp hdd hsp heq => by
    rcases domc p d hp hdd hsp with ⟨j, b', h1, h2, h3, h4, h5⟩ | h1
    · have := hT.inj i j b b' hi h2 hd h3 hs h4 (heq.trans h5.symm)
      exact hij (this ▸ h1)
    · have := hT.lt hi hd hs
      omega
  refine ⟨hT.fr.call hT'.fr (fun k hk => ?_), fun i c hi hd => ?_, fun i c hi hd hs => ?_, fun i c hi hd hs => ?_, fun i i' c c' hi hi' hd hd' hs hs' heq => ?_⟩
  · obtain ⟨j, hj1, rfl⟩ := List.mem_map.1 hk
    have hj3 := (List.mem_filter.1 hj1)
    simp at hj3
    obtain ⟨b', hb', _⟩ := hpk j hj3.1
    have hw' : b'.wr = true := by have := hj3.2.2; rw [hb'] at this; exact this
    exact hT.domw j b' hb' hw' hj3.2.1
  · rcases cases3 i c hi with ⟨hlt, hij, b, hb1, rfl, e1, e2⟩ | ⟨p, d, hp, rfl, e1, e2, _⟩
    · rw [e1, e2]
      have hd : b.isDead = false := by simpa using hd
      rcases hT.lies i b hb1 hd with ⟨h0, h1⟩ | ⟨pre, hpre, hl⟩
      · exact .inl ⟨h0, by simpa using h1⟩
      · by_cases hs : (σ i).1 = 0
        · refine .inl ⟨hs, ?_⟩
          have := hl.pre_le
          have := hpre.length
          simp; omega
        · exact .inr ⟨pre, hpre.purge (by omega) agree, hl.of_block (oldblock i b hb1 hd hij hs)⟩
    · rw [e1, e2]
      rcases hT'.lies p d hp (by simpa using hd) with ⟨h0, h1⟩ | ⟨pre, hpre, hl⟩
      · exact .inl ⟨h0, by simpa using h1⟩
      · exact .inr ⟨pre, hpre.ren (fun i hi _ => backs i hi), hl⟩
  · rcases cases3 i c hi with ⟨hlt, hij, b, hb1, rfl, e1, e2⟩ | ⟨p, d, hp, rfl, e1, e2, _⟩
    · rw [e1]; rw [e2] at hs; exact hT.dom i b hb1 (by simpa using hd) hs
    · rw [e1]; rw [e2] at hs
      rcases domc p d hp (by simpa using hd) hs with ⟨j, b', h1, h2, h3, h4, h5⟩ | h1
      · rw [← h5]; exact hT.dom j b' h2 h3 h4
      · right; have := hT.fr.size; omega
  · rcases cases3 i c hi with ⟨hlt, hij, b, hb1, rfl, e1, e2⟩ | ⟨p, d, hp, rfl, e1, e2, _⟩
    · rw [e1]; rw [e2] at hs; exact hT.domw i b hb1 (by simpa using hd) hs
    · rw [e1]; rw [e2] at hs
      rcases hT'.domw p d hp (by simpa using hd) hs with h1 | h1
      · obtain ⟨j, hj1, hj2⟩ := List.mem_map.1 h1
        have hj3 := (List.mem_filter.1 hj1)
        simp at hj3
        obtain ⟨b', hb', _⟩ := hpk j hj3.1
        have hw' : b'.wr = true := by have := hj3.2.2; rw [hb'] at this; exact this
        rw [← hj2]; exact hT.domw j b' hb' hw' hj3.2.1
      · right; have := hT.fr.size
        have : w.heap.size ≤ ρ' p := h1
        omega
  · rcases cases3 i c hi with ⟨hlt, hij, b, hb1, rfl, e1, e2⟩ | ⟨p, d, hp, rfl, e1, e2, e3⟩ <;>
      rcases cases3 i' c' hi' with ⟨hlt', hij', b', hb1', rfl, e1', e2'⟩ | ⟨p', d', hp', rfl, e1', e2', e3'⟩
    · rw [e1, e1'] at heq; rw [e2] at hs; rw [e2'] at hs'
      exact hT.inj i i' b b' hb1 hb1' (by simpa using hd) (by simpa using hd') hs hs' heq
    · rw [e1, e1'] at heq; rw [e2] at hs; rw [e2'] at hs'
      exact absurd heq (apart i b p' d' hb1 (by simpa using hd) hij hs hp' (by simpa using hd') hs')
    · rw [e1, e1'] at heq; rw [e2] at hs; rw [e2'] at hs'
      exact absurd heq.symm (apart i' b' p d hb1' (by simpa using hd') hij' hs' hp (by simpa using hd) hs)
    · rw [e1, e1'] at heq; rw [e2] at hs; rw [e2'] at hs'
      have := hT'.inj p p' d d' hp hp' (by simpa using hd) (by simpa using hd') hs hs' heq
      rw [e3, e3', this]

end
/-! ### One form for what is all numbers -/
def SV.norm : SV → SV
  | .agg l => match l with
    | .v (.int k x) :: r => match toInts k r with
      | some m => .ia k (x :: m)
      | none => .agg l
    | _ => .agg l
  | s => s
def normL : List SV → List SV
  | [] => []
  | s :: l => s.norm :: normL l
def SV.normT : SV → SV
  | .tup l => .tup (normL l)
  | s => s.norm
def Blk.norm : Blk → Blk
  | .cells w l => match l with
    | .v (.int k x) :: r => match toInts k r with
      | some m => .ints w k (x :: m)
      | none => .cells w l
    | _ => .cells w l
  | b => b
def normB : List Blk → List Blk
  | [] => []
  | b :: l => b.norm :: normB l

section
variable {n : Nat} {ρ : Nat → Nat} {σ : Nat → Nat × Nat} {B : Base} {w : World}
theorem Rel.norm {s : SV} {u : Value} (h : Rel n ρ σ s u) : Rel n ρ σ s.norm u := by
  cases s with
  | agg l =>
    simp only [SV.norm]
    split
    · rename_i k x r
      split
      · rename_i m hm
        simp only [Rel] at h ⊢
        obtain ⟨cs, rfl, h⟩ := h
        simp only [RelL] at h
        obtain ⟨b, y, h1, h2, h3⟩ := h
        simp only [Rel] at h2
        subst h2
        have := toInts_rel hm h3
        congr 1
        apply Array.ext'
        rw [h1, this]; simp
      · exact h
    · exact h
  | _ => exact h
theorem RelL.norm : ∀ {l : List SV} {u : List Value}, RelL n ρ σ l u → RelL n ρ σ (normL l) u
  | [], u, h => h
  | a :: l, u, h => by
    simp only [RelL, normL] at h ⊢
    obtain ⟨b, m, h1, h2, h3⟩ := h
    exact ⟨b, m, h1, h2.norm, RelL.norm h3⟩
theorem Rel.normT {s : SV} {u : Value} (h : Rel n ρ σ s u) : Rel n ρ σ s.normT u := by
  cases s with
  | tup l =>
    simp only [SV.normT, Rel] at h ⊢
    obtain ⟨cs, h1, h2⟩ := h
    exact ⟨cs, h1, h2.norm⟩
  | _ => exact h.norm
theorem Pre.norm {b : Blk} {u : List Value} (h : Pre n ρ σ b u) : Pre n ρ σ b.norm u := by
  cases b with
  | cells w l =>
    simp only [Blk.norm]
    split
    · rename_i k x r
      split
      · rename_i m hm
        simp only [Pre, RelL] at h ⊢
        obtain ⟨b, y, h1, h2, h3⟩ := h
        simp only [Rel] at h2
        subst h2
        have := toInts_rel hm h3
        rw [h1, this]; simp
      · exact h
    · exact h
  | _ => exact h
theorem toInts_len {k : IntKind} : ∀ (l : List SV) (r : List Int), toInts k l = some r → r.length = l.length
  | [], r, h => by simp [toInts] at h; subst h; rfl
  | a :: l, r, h => by
    unfold toInts at h
    split at h
    · simp at h; simp_all
    · rename_i heq
      simp at heq
      obtain ⟨rfl, rfl⟩ := heq
      split at h
      · rename_i r' _ hr'
        simp at h; subst h
        simp [toInts_len _ _ hr']
      · cases h
    · cases h
@[simp] theorem Blk.norm_dead (b : Blk) : b.norm.isDead = b.isDead := by
  cases b with
  | cells w l => simp only [Blk.norm]; split <;> (try split) <;> rfl
  | _ => rfl
@[simp] theorem Blk.norm_wr (b : Blk) : b.norm.wr = b.wr := by
  cases b with
  | cells w l => simp only [Blk.norm]; split <;> (try split) <;> rfl
  | _ => rfl
@[simp] theorem Blk.norm_len (b : Blk) : b.norm.len = b.len := by
  cases b with
  | cells w l =>
    simp only [Blk.norm]
    split
    · split
      · rename_i m hm; simp [Blk.len, toInts_len _ _ hm]
      · rfl
    · rfl
  | _ => rfl
theorem normB_eq : ∀ l : List Blk, normB l = l.map Blk.norm
  | [] => rfl
  | b :: l => by simp [normB, normB_eq l]
theorem TOK.norm {tbl : List Blk} (h : TOK ρ σ B tbl w) : TOK ρ σ B (normB tbl) w := by
  rw [normB_eq]
  have look : ∀ (i : Nat) (c : Blk), (tbl.map Blk.norm)[i]? = some c → ∃ b, tbl[i]? = some b ∧ c = b.norm := fun i c hi => by
    rw [List.getElem?_map] at hi
    cases hb : tbl[i]? with
    | none => rw [hb] at hi; cases hi
    | some b => rw [hb] at hi; exact ⟨b, rfl, (Option.some.inj hi).symm⟩
  refine ⟨h.fr, fun i c hi hd => ?_, fun i c hi hd hs => ?_, fun i c hi hd hs => ?_, fun i j c d hi hj hc hd hsp hsq he => ?_⟩
  · obtain ⟨b, hb, rfl⟩ := look i c hi
    rcases h.lies i b hb (by simpa using hd) with ⟨h0, h1⟩ | ⟨pre, hp, hl⟩
    · exact .inl ⟨h0, by simpa using h1⟩
    · exact .inr ⟨pre, by rw [List.length_map]; exact hp.norm, hl⟩
  · obtain ⟨b, hb, rfl⟩ := look i c hi
    exact h.dom i b hb (by simpa using hd) hs
  · obtain ⟨b, hb, rfl⟩ := look i c hi
    exact h.domw i b hb (by simpa using hd) hs
  · obtain ⟨b, hb, rfl⟩ := look i c hi
    obtain ⟨b', hb', rfl⟩ := look j d hj
    exact h.inj i j b b' hb hb' (by simpa using hc) (by simpa using hd) hsp hsq he
end
/-- The callee may be met with the one form. -/
theorem FnOK.normed {P : Program} {f : FuncId} {args : List SV} {tbl : List Blk} {K : SV → List Blk → List Nat → Prop} (h : FnOK P f (normL args) (normB tbl) K) : FnOK P f args tbl K :=
  fun B ρ σ as w hr hT => by
    have hl : (normB tbl).length = tbl.length := by rw [normB_eq]; simp
    have := h B ρ σ as w (by rw [hl]; exact hr.norm) hT.norm
    rw [hl] at this
    exact this

end Go.Proofs.Ytahkneobmekokaa.Sx
