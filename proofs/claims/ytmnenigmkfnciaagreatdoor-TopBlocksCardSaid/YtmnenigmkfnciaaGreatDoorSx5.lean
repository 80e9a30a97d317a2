/- Calls in the walk by computation: what a function does, told for a table of its own; the same in a caller's table. No condition. -/
import Derived.Test.YtmnenigmkfnciaaGreatDoorSx4
namespace Go.Proofs.YtmnenigmkfnciaaGreatDoor.Sx
open Go
variable {ds : List Deferred}

/-- What a call of f does: K of its result, of the blocks behind it, of those among them that have moved. -/
def FnOK (P : Program) (f : FuncId) (args : List SV) (tbl : List Blk) (K : SV → List Blk → List Nat → Prop) : Prop :=
  ∀ (B : Base) (ρ : Nat → Nat) (σ : Nat → Nat × Nat) (as : Array Value) (w : World), RelL tbl.length ρ σ args as.toList → TOK ρ σ B tbl w →
    Calls P f as w fun e w' => ∃ s v tbl' mv ρ' σ', e = .returned v ∧ Rel tbl'.length ρ' σ' s v ∧ tbl.length ≤ tbl'.length ∧
      (∀ i, i < tbl.length → i ∉ mv → ρ' i = ρ i ∧ σ' i = σ i) ∧ TOK ρ' σ' B tbl' w' ∧ K s tbl' mv

theorem FnOK.mono {P : Program} {f : FuncId} {args : List SV} {tbl : List Blk} {K K' : SV → List Blk → List Nat → Prop} (h : FnOK P f args tbl K) (hK : ∀ s t m, K s t m → K' s t m) : FnOK P f args tbl K' :=
  fun B ρ σ as w hr hT => (h B ρ σ as w hr hT).mono fun _ _ ⟨s, v, t, m, ρ', σ', h1, h2, h3, h4, h5, h6⟩ => ⟨s, v, t, m, ρ', σ', h1, h2, h3, h4, h5, hK _ _ _ h6⟩

mutual
def SV.ren (m : Nat → Nat) : SV → SV
  | .v x => .v x
  | .ptr i o => .ptr (m i) o
  | .slc i o l c s => .slc (m i) o l c s
  | .agg l => .agg (SV.renL m l)
  | .ia k l => .ia k l
  | .tup l => .tup (SV.renL m l)
  | .fn f a b => .fn f (SV.renL m a) (SV.renL m b)
  | .mp i => .mp (m i)
  | .ifc t s => .ifc t (SV.ren m s)
  | .pix i o s ix c => .pix (m i) o s ix c
  | .unk => .unk
def SV.renL (m : Nat → Nat) : List SV → List SV
  | [] => []
  | a :: l => SV.ren m a :: SV.renL m l
end
theorem SV.renL_length (m : Nat → Nat) : ∀ l : List SV, (SV.renL m l).length = l.length
  | [] => rfl
  | a :: l => by simp [SV.renL, SV.renL_length m l]

mutual
theorem Rel.ren {n n' : Nat} {ρ ρ' : Nat → Nat} {σ σ' : Nat → Nat × Nat} {m : Nat → Nat} : ∀ (s : SV) (u : Value), (∀ i, i < n → s.refs i = true → m i < n' ∧ ρ' (m i) = ρ i ∧ σ' (m i) = σ i) → Rel n ρ σ s u → Rel n' ρ' σ' (s.ren m) u
  | .v x, u, _, h => by simpa [Rel, SV.ren] using h
  | .ptr i off, u, hr, h => by
    simp only [Rel, SV.ren] at h ⊢
    obtain ⟨h1, h2⟩ := h
    have := hr i h1 (by simp [SV.refs])
    exact ⟨this.1, by rw [this.2.1, this.2.2]; exact h2⟩
  | .slc i off len cp s, u, hr, h => by
    simp only [Rel, SV.ren] at h ⊢
    obtain ⟨h1, h2, h3⟩ := h
    have := hr i h1 (by simp [SV.refs])
    exact ⟨this.1, h2, by rw [this.2.1, this.2.2]; exact h3⟩
  | .agg l, u, hr, h => by
    simp only [Rel, SV.ren] at h ⊢
    obtain ⟨cs, h1, h2⟩ := h
    exact ⟨cs, h1, RelL.ren l _ (fun i hi hx => hr i hi (by simpa [SV.refs] using hx)) h2⟩
  | .ia k l, u, _, h => by simpa [Rel, SV.ren] using h
  | .tup l, u, hr, h => by
    simp only [Rel, SV.ren] at h ⊢
    obtain ⟨cs, h1, h2⟩ := h
    exact ⟨cs, h1, RelL.ren l _ (fun i hi hx => hr i hi (by simpa [SV.refs] using hx)) h2⟩
  | .fn f a b, u, hr, h => by
    simp only [Rel, SV.ren] at h ⊢
    obtain ⟨x, y, h1, h2, h3⟩ := h
    exact ⟨x, y, h1, RelL.ren a _ (fun i hi hx => hr i hi (by simp [SV.refs, hx])) h2, RelL.ren b _ (fun i hi hx => hr i hi (by simp [SV.refs, hx])) h3⟩
  | .mp i, u, hr, h => by
    simp only [Rel, SV.ren] at h ⊢
    obtain ⟨h1, h2⟩ := h
    have := hr i h1 (by simp [SV.refs])
    exact ⟨this.1, by rw [this.2.1]; exact h2⟩
  | .ifc t s, u, hr, h => by
    simp only [Rel, SV.ren] at h ⊢
    obtain ⟨x, h1, h2⟩ := h
    exact ⟨x, h1, Rel.ren s x (fun i hi hx => hr i hi (by simpa [SV.refs] using hx)) h2⟩
  | .pix i off s ix c, u, hr, h => by
    simp only [Rel, SV.ren] at h ⊢
    obtain ⟨h1, h2⟩ := h
    have := hr i h1 (by simp [SV.refs])
    exact ⟨this.1, by rw [this.2.1, this.2.2]; exact h2⟩
  | .unk, u, _, _ => by simp [Rel, SV.ren]
theorem RelL.ren {n n' : Nat} {ρ ρ' : Nat → Nat} {σ σ' : Nat → Nat × Nat} {m : Nat → Nat} : ∀ (s : List SV) (u : List Value), (∀ i, i < n → SV.refsL i s = true → m i < n' ∧ ρ' (m i) = ρ i ∧ σ' (m i) = σ i) → RelL n ρ σ s u → RelL n' ρ' σ' (SV.renL m s) u
  | [], u, _, h => by simpa [RelL, SV.renL] using h
  | a :: l, u, hr, h => by
    simp only [RelL, SV.renL] at h ⊢
    obtain ⟨b, m', h1, h2, h3⟩ := h
    exact ⟨b, m', h1, Rel.ren a b (fun i hi hx => hr i hi (by simp [SV.refsL, hx])) h2, RelL.ren l m' (fun i hi hx => hr i hi (by simp [SV.refsL, hx])) h3⟩
end

mutual
theorem SV.ren_id : ∀ s : SV, s.ren id = s
  | .v _ | .ptr _ _ | .slc _ _ _ _ _ | .ia _ _ | .mp _ | .pix _ _ _ _ _ | .unk => by simp [SV.ren]
  | .agg l => by simp [SV.ren, SV.renL_id l]
  | .tup l => by simp [SV.ren, SV.renL_id l]
  | .fn f a b => by simp [SV.ren, SV.renL_id a, SV.renL_id b]
  | .ifc t s => by simp [SV.ren, SV.ren_id s]
theorem SV.renL_id : ∀ l : List SV, SV.renL id l = l
  | [] => by simp [SV.renL]
  | a :: l => by simp [SV.renL, SV.ren_id a, SV.renL_id l]
end
def Blk.ren (m : Nat → Nat) : Blk → Blk
  | .dead => .dead
  | .cells w l => .cells w (SV.renL m l)
  | .ints w k l => .ints w k l
  | .tab w n cols => .tab w n cols
  | .map w pl ks g => match pl with
    | true => .map w true ks g
    | false => .map w false ks fun k => (g k).ren m
def Blk.ro : Blk → Blk
  | .dead => .dead
  | .cells _ l => .cells false l
  | .ints _ k l => .ints false k l
  | .tab _ n cols => .tab false n cols
  | .map _ pl ks g => .map false pl ks g
theorem Pre.ren {n n' : Nat} {ρ ρ' : Nat → Nat} {σ σ' : Nat → Nat × Nat} {m : Nat → Nat} {b : Blk} {u : List Value} (hr : ∀ i, i < n → b.refs i = true → m i < n' ∧ ρ' (m i) = ρ i ∧ σ' (m i) = σ i) (h : Pre n ρ σ b u) : Pre n' ρ' σ' (b.ren m) u := by
  cases b with
  | dead => exact h.elim
  | cells w l => exact RelL.ren l u hr h
  | ints w k l => exact h
  | tab w n cols => exact h
  | map w pl ks g => exact h.elim
theorem MapB.ren {n n' : Nat} {ρ ρ' : Nat → Nat} {σ σ' : Nat → Nat × Nat} {m : Nat → Nat} {b : Blk} {o : Obj} (hr : ∀ i, i < n → b.refs i = true → m i < n' ∧ ρ' (m i) = ρ i ∧ σ' (m i) = σ i) (hn : ∀ s : SV, (∀ j, s.refs j = false) → ∀ u, Rel n ρ σ s u → Rel n' ρ' σ' s u) (h : MapB n ρ σ b o) : MapB n' ρ' σ' (b.ren m) o := by
  cases b with
  | map w pl ks g =>
    obtain ⟨es, clock, h1, h2, h3, h4, h5, h6, h7⟩ := h
    have hk : ∀ e ∈ es.toList, e.key ∈ ks.vals := fun e he => h2.mem (List.mem_map_of_mem he)
    cases pl with
    | true => exact ⟨es, clock, h1, h2, h3, fun e he => hn _ (h7 rfl _ (hk e he)) _ (h4 e he), h5, h6, h7⟩
    | false =>
      refine ⟨es, clock, h1, h2, h3, fun e he => Rel.ren _ _ (fun i hi hx => hr i hi ?_) (h4 e he), h5, h6, fun hf => by cases hf⟩
      simp only [Blk.refs]
      exact anyK_iff.2 ⟨e.key, hk e he, hx⟩
  | _ => exact h.elim
/-- What refers to nothing is told alike by all. -/
theorem Rel.plain {n n' : Nat} {ρ ρ' : Nat → Nat} {σ σ' : Nat → Nat × Nat} {s : SV} (hs : ∀ j, s.refs j = false) {u : Value} (h : Rel n ρ σ s u) : Rel n' ρ' σ' s u := by
  have h1 : Rel (max n n') ρ' σ' s u := Rel.mono (Nat.le_max_left _ _) s u (fun i _ hx => by rw [hs i] at hx; cases hx) h
  have h2 := Rel.ren (m := id) (n' := n') (ρ' := ρ') (σ' := σ') s u (fun i _ hx => by rw [hs i] at hx; cases hx) h1
  rwa [SV.ren_id] at h2
theorem MapB.ro {n : Nat} {ρ : Nat → Nat} {σ : Nat → Nat × Nat} {b : Blk} {o : Obj} (h : MapB n ρ σ b o) : MapB n ρ σ b.ro o := by cases b <;> exact h
theorem Pre.ro {n : Nat} {ρ : Nat → Nat} {σ : Nat → Nat × Nat} {b : Blk} {u : List Value} (h : Pre n ρ σ b u) : Pre n ρ σ b.ro u := by cases b <;> exact h
theorem Blk.ren_map (m : Nat → Nat) (w pl : Bool) (ks : KS) (g : Value → SV) : ∃ g', (Blk.map w pl ks g).ren m = .map w pl ks g' := by cases pl <;> exact ⟨_, rfl⟩
@[simp] theorem Blk.ren_dead (m : Nat → Nat) (b : Blk) : (b.ren m).isDead = b.isDead := by
  cases b with
  | map w pl ks g => obtain ⟨g', h⟩ := Blk.ren_map m w pl ks g; rw [h]; rfl
  | _ => rfl
@[simp] theorem Blk.ren_isMap (m : Nat → Nat) (b : Blk) : (b.ren m).isMap = b.isMap := by
  cases b with
  | map w pl ks g => obtain ⟨g', h⟩ := Blk.ren_map m w pl ks g; rw [h]; rfl
  | _ => rfl
@[simp] theorem Blk.ren_mw (m : Nat → Nat) (b : Blk) : (b.ren m).mw = b.mw := by
  cases b with
  | map w pl ks g => obtain ⟨g', h⟩ := Blk.ren_map m w pl ks g; rw [h]; rfl
  | _ => rfl
@[simp] theorem Blk.ro_isMap (b : Blk) : b.ro.isMap = b.isMap := by cases b <;> rfl
@[simp] theorem Blk.ro_mw (b : Blk) : b.ro.mw = false := by cases b <;> rfl
@[simp] theorem Blk.ren_wr (m : Nat → Nat) (b : Blk) : (b.ren m).wr = b.wr := by
  cases b with
  | map w pl ks g => obtain ⟨g', h⟩ := Blk.ren_map m w pl ks g; rw [h]; rfl
  | _ => rfl
@[simp] theorem Blk.ren_len (m : Nat → Nat) (b : Blk) : (b.ren m).len = b.len := by
  cases b with
  | map w pl ks g => obtain ⟨g', h⟩ := Blk.ren_map m w pl ks g; rw [h]; rfl
  | _ => simp [Blk.ren, Blk.len, SV.renL_length]
@[simp] theorem Blk.ro_dead (b : Blk) : b.ro.isDead = b.isDead := by cases b <;> rfl
@[simp] theorem Blk.ro_wr (b : Blk) : b.ro.wr = false := by cases b <;> rfl
@[simp] theorem Blk.ro_len (b : Blk) : b.ro.len = b.len := by cases b <;> rfl
theorem Blk.ren_ro (m : Nat → Nat) (b : Blk) : (b.ren m).ro = b.ro.ren m := by
  cases b with
  | map w pl ks g => cases pl <;> rfl
  | _ => rfl

/-! ### Which blocks a call sees -/
def mem : List Nat → Nat → Bool
  | [], _ => false
  | j :: r, i => match Nat.beq j i with | true => true | false => mem r i
def pos : List Nat → Nat → Nat
  | [], _ => 0
  | j :: r, i => match Nat.beq j i with | true => 0 | false => pos r i + 1
theorem beq_false {a b : Nat} (h : a ≠ b) : Nat.beq a b = false := by cases hb : Nat.beq a b with | false => rfl | true => exact absurd (Nat.eq_of_beq_eq_true hb) h
theorem mem_iff : ∀ (l : List Nat) (i : Nat), mem l i = true ↔ i ∈ l
  | [], i => by simp [mem]
  | j :: r, i => by
    by_cases e : j = i
    · subst e; simp [mem]
    · simp [mem, beq_false e, mem_iff r i, Ne.symm e]
theorem pos_get : ∀ (l : List Nat) (i : Nat), i ∈ l → l[pos l i]? = some i
  | [], i, h => by simp at h
  | j :: r, i, h => by
    by_cases e : j = i
    · subst e; simp [pos]
    · have : i ∈ r := by simpa [Ne.symm e] using h
      simp [pos, beq_false e, pos_get r i this]
theorem pos_of : ∀ (l : List Nat) (p i : Nat), l.Nodup → l[p]? = some i → pos l i = p
  | [], p, i, _, h => by simp at h
  | j :: r, 0, i, _, h => by simp at h; subst h; simp [pos]
  | j :: r, p + 1, i, hn, h => by
    simp at h
    have hi : i ∈ r := List.mem_of_getElem? h
    have e : j ≠ i := by rintro rfl; exact (List.nodup_cons.1 hn).1 hi
    simp [pos, beq_false e, pos_of r p i (List.nodup_cons.1 hn).2 h]

def nodupB : List Nat → Bool
  | [] => true
  | j :: r => !mem r j && nodupB r
theorem nodupB_iff : ∀ l, nodupB l = true → l.Nodup
  | [], _ => by simp
  | j :: r, h => by
    simp only [nodupB, Bool.and_eq_true, Bool.not_eq_true'] at h
    exact List.nodup_cons.2 ⟨fun hm => by rw [(mem_iff r j).2 hm] at h; simp at h, nodupB_iff r h.2⟩

mutual
def SV.within (js : List Nat) : SV → Bool
  | .v _ | .ia _ _ | .unk => true
  | .ptr i _ | .slc i _ _ _ _ | .mp i | .pix i _ _ _ _ => mem js i
  | .agg l | .tup l => SV.withinL js l
  | .fn _ a b => SV.withinL js a && SV.withinL js b
  | .ifc _ s => SV.within js s
def SV.withinL (js : List Nat) : List SV → Bool
  | [] => true
  | a :: l => SV.within js a && SV.withinL js l
end
mutual
theorem SV.within_refs {js : List Nat} : ∀ (s : SV) (i : Nat), s.within js = true → s.refs i = true → i ∈ js
  | .v _, i, _, h => by simp [SV.refs] at h
  | .ia _ _, i, _, h => by simp [SV.refs] at h
  | .unk, i, _, h => by simp [SV.refs] at h
  | .ptr j _, i, hw, h => by simp only [SV.within, SV.refs] at hw h; have := Nat.eq_of_beq_eq_true h; subst this; exact (mem_iff _ _).1 hw
  | .slc j _ _ _ _, i, hw, h => by simp only [SV.within, SV.refs] at hw h; have := Nat.eq_of_beq_eq_true h; subst this; exact (mem_iff _ _).1 hw
  | .agg l, i, hw, h => by simp only [SV.within, SV.refs] at hw h; exact SV.withinL_refs l i hw h
  | .tup l, i, hw, h => by simp only [SV.within, SV.refs] at hw h; exact SV.withinL_refs l i hw h
  | .fn _ a b, i, hw, h => by
    simp only [SV.within, SV.refs, Bool.and_eq_true, Bool.or_eq_true] at hw h
    rcases h with h | h
    · exact SV.withinL_refs a i hw.1 h
    · exact SV.withinL_refs b i hw.2 h
  | .mp j, i, hw, h => by simp only [SV.within, SV.refs] at hw h; have := Nat.eq_of_beq_eq_true h; subst this; exact (mem_iff _ _).1 hw
  | .pix j _ _ _ _, i, hw, h => by simp only [SV.within, SV.refs] at hw h; have := Nat.eq_of_beq_eq_true h; subst this; exact (mem_iff _ _).1 hw
  | .ifc _ s, i, hw, h => by simp only [SV.within, SV.refs] at hw h; exact SV.within_refs s i hw h
theorem SV.withinL_refs {js : List Nat} : ∀ (s : List SV) (i : Nat), SV.withinL js s = true → SV.refsL i s = true → i ∈ js
  | [], i, _, h => by simp [SV.refsL] at h
  | a :: l, i, hw, h => by
    simp only [SV.withinL, SV.refsL, Bool.and_eq_true, Bool.or_eq_true] at hw h
    rcases h with h | h
    · exact SV.within_refs a i hw.1 h
    · exact SV.withinL_refs l i hw.2 h
end
def Blk.within (js : List Nat) : Blk → Bool
  | .cells _ l => SV.withinL js l
  | .map _ pl ks g => match pl with
    | true => true
    | false => !anyK (fun k => !(g k).within js) ks.vals
  | _ => true
theorem Blk.within_refs {js : List Nat} {b : Blk} {i : Nat} (h : b.within js = true) (hr : b.refs i = true) : i ∈ js := by
  cases b with
  | dead => simp [Blk.refs] at hr
  | cells w l => exact SV.withinL_refs l i h hr
  | ints w k l => simp [Blk.refs] at hr
  | tab w n cols => simp [Blk.refs] at hr
  | map w pl ks g =>
    cases pl with
    | true => simp [Blk.refs] at hr
    | false =>
      simp only [Blk.refs] at hr
      obtain ⟨k, hk, hx⟩ := anyK_iff.1 hr
      simp only [Blk.within, Bool.not_eq_true'] at h
      have : (g k).within js = true := by
        cases hc : (g k).within js with
        | true => rfl
        | false =>
          have := anyK_iff (p := fun k => !(g k).within js).2 ⟨k, hk, by simp [hc]⟩
          rw [h] at this; cases this
      exact SV.within_refs _ i this hx

mutual
def SV.adds (acc : List Nat) : SV → List Nat
  | .ptr i _ | .slc i _ _ _ _ | .mp i | .pix i _ _ _ _ => match mem acc i with | true => acc | false => acc ++ [i]
  | .agg l | .tup l => SV.addsL acc l
  | .fn _ a b => SV.addsL (SV.addsL acc a) b
  | .ifc _ s => SV.adds acc s
  | _ => acc
def SV.addsL (acc : List Nat) : List SV → List Nat
  | [] => acc
  | a :: l => SV.addsL (SV.adds acc a) l
end
def addsK (g : Value → SV) (acc : List Nat) : List Value → List Nat
  | [] => acc
  | k :: r => addsK g (SV.adds acc (g k)) r
def Blk.adds (acc : List Nat) : Blk → List Nat
  | .cells _ l => SV.addsL acc l
  | .map _ pl ks g => match pl with
    | true => acc
    | false => addsK g acc ks.vals
  | _ => acc
/-- All blocks that are reached; the ones up to 'k' have been looked into. -/
def reach (tbl : List Blk) : Nat → Nat → List Nat → List Nat
  | 0, _, js => js
  | fuel + 1, k, js => match nth js k with
    | none => js
    | some j => match nth tbl j with
      | some b => reach tbl fuel (k + 1) (b.adds js)
      | none => reach tbl fuel (k + 1) js
def seen (tbl : List Blk) (args : List SV) : List Nat := match SV.addsL [] args with
  | [] => []
  | js => reach tbl (tbl.length + 1) 0 js
/-- The blocks of a call. -/
def pick (tbl : List Blk) (m : Nat → Nat) : List Nat → Option (List Blk)
  | [] => some []
  | j :: r => match nth tbl j, pick tbl m r with
    | some b, some l => some (b.ren m :: l)
    | _, _ => none
def pickOk (tbl : List Blk) (js : List Nat) : List Nat → Bool
  | [] => true
  | j :: r => (match nth tbl j with | some b => b.within js | none => false) && pickOk tbl js r
def okJs (tbl : List Blk) (args : List SV) (js : List Nat) : Bool := nodupB js && SV.withinL js args && pickOk tbl js js

theorem pick_get {tbl : List Blk} {m : Nat → Nat} : ∀ {js : List Nat} {bs : List Blk}, pick tbl m js = some bs → bs.length = js.length ∧ ∀ (p j : Nat), js[p]? = some j → ∃ b : Blk, tbl[j]? = some b ∧ bs[p]? = some (b.ren m)
  | [], bs, h => by simp [pick] at h; subst h; simp
  | j :: r, bs, h => by
    simp only [pick] at h
    split at h
    · rename_i b l hb hl
      simp at h; subst h
      obtain ⟨h1, h2⟩ := pick_get hl
      refine ⟨by simp [h1], fun p j' hp => ?_⟩
      cases p with
      | zero => simp at hp; subst hp; rw [nth_eq] at hb; exact ⟨b, hb, rfl⟩
      | succ p => simpa using h2 p j' (by simpa using hp)
    · cases h
theorem pickOk_get {tbl : List Blk} {js : List Nat} : ∀ {l : List Nat}, pickOk tbl js l = true → ∀ j ∈ l, ∃ b, tbl[j]? = some b ∧ b.within js = true
  | [], _, j, hj => by simp at hj
  | i :: r, h, j, hj => by
    simp only [pickOk, Bool.and_eq_true] at h
    rcases List.mem_cons.1 hj with rfl | hj
    · have h1 := h.1
      split at h1
      · rename_i b hb; rw [nth_eq] at hb; exact ⟨b, hb, h1⟩
      · cases h1
    · exact pickOk_get h.2 j hj

section
variable {P : Program} {ρ : Nat → Nat} {σ : Nat → Nat × Nat} {B : Base} {tbl : List Blk} {w : World}

/-- The callee's base. -/
def calleeBase (ρ : Nat → Nat) (σ : Nat → Nat × Nat) (tbl : List Blk) (js : List Nat) (w : World) : Base := {
  A := (js.filter fun j => (σ j).1 != 0 && (match tbl[j]? with | some b => !b.isDead | none => false)).map ρ,
  W := (js.filter fun j => (σ j).1 != 0 && (match tbl[j]? with | some b => b.wr | none => false)).map ρ,
  AM := (js.filter fun j => match tbl[j]? with | some b => b.isMap | none => false).map ρ,
  WM := (js.filter fun j => match tbl[j]? with | some b => b.mw | none => false).map ρ,
  w0 := w }

/-- The callee's table holds. -/
theorem TOK.callee (h : TOK ρ σ B tbl w) {args : List SV} {js : List Nat} {bs : List Blk} (hj : okJs tbl args js = true) (hb : pick tbl (pos js) js = some bs) :
    TOK (fun p => ρ (js.getD p 0)) (fun p => σ (js.getD p 0)) (calleeBase ρ σ tbl js w) bs w := by
  simp only [okJs, Bool.and_eq_true] at hj
  obtain ⟨⟨hnd, hwa⟩, hpk⟩ := hj
  have hnd := nodupB_iff _ hnd
  obtain ⟨hlen, hget⟩ := pick_get hb
  have look : ∀ p c, bs[p]? = some c → ∃ j b, js[p]? = some j ∧ js.getD p 0 = j ∧ tbl[j]? = some b ∧ c = b.ren (pos js) ∧ b.within js = true := fun p c hp => by
    have hpl : p < js.length := by rw [← hlen]; exact (List.getElem?_eq_some_iff.1 hp).1
    have hj : js[p]? = some js[p] := by simp [hpl]
    obtain ⟨b, h1, h2⟩ := hget p _ hj
    obtain ⟨b', h3, h4⟩ := pickOk_get hpk js[p] (List.getElem_mem hpl)
    rw [h1] at h3; cases h3
    rw [h2] at hp
    exact ⟨js[p], b, hj, by simp [List.getD, hpl], h1, (Option.some.inj hp).symm, h4⟩
  refine ⟨h.gOK fun x hx => ?_, Fr.refl _ _, fun p c hp hd => ?_, fun p c hp hd hs => ?_, fun p c hp hd hs => ?_, fun p q c d hp hq hc hd hx hsp hsq he => ?_, ?_⟩
  · rcases List.mem_append.1 hx with hx | hx
    · obtain ⟨j, hj1, rfl⟩ := List.mem_map.1 hx
      have hj3 := (List.mem_filter.1 hj1)
      simp at hj3
      obtain ⟨b', hb', _⟩ := pickOk_get hpk j hj3.1
      have hw' : b'.wr = true := by have := hj3.2.2; rw [hb'] at this; exact this
      exact (h.domw j b' hb' hw' hj3.2.1).imp_left (List.mem_append_left _)
    · obtain ⟨j, hj1, rfl⟩ := List.mem_map.1 hx
      have hj3 := (List.mem_filter.1 hj1)
      obtain ⟨b', hb', _⟩ := pickOk_get hpk j hj3.1
      have hw' : b'.mw = true := by have := hj3.2; rw [hb'] at this; exact this
      exact (h.mok.domw j b' hb' hw').imp_left (List.mem_append_right _)
  rotate_left 4
  · refine h.mok.via (fun p => js.getD p 0) (fun p c hp hm => ?_) (fun p q c d hp hq hc hd he => ?_)
    · obtain ⟨j, b, hj, hjD, hb1, rfl, hwi⟩ := look p c hp
      have hbm : b.isMap = true := by simpa using hm
      simp only [hjD]
      refine ⟨b, hb1, hbm, trivial, trivial, fun o ho => ho.ren (fun i hi hr => ?_) (fun s hs u hu => Rel.plain hs hu), by simp, fun _ => .inl ?_, fun hw _ => .inl ?_⟩
      · have him := Blk.within_refs hwi hr
        have := pos_get js i him
        refine ⟨by rw [hlen]; exact (List.getElem?_eq_some_iff.1 this).1, ?_, ?_⟩ <;> simp [List.getD, this]
      · exact List.mem_map.2 ⟨j, List.mem_filter.2 ⟨List.mem_of_getElem? hj, by simp [hb1, hbm]⟩, rfl⟩
      · exact List.mem_map.2 ⟨j, List.mem_filter.2 ⟨List.mem_of_getElem? hj, by simpa [hb1] using hw⟩, rfl⟩
    · obtain ⟨j, b, hj, hjD, _⟩ := look p c hp
      obtain ⟨j', b', hj', hjD', _⟩ := look q d hq
      simp only [hjD, hjD'] at he
      subst he
      exact (List.getElem?_inj (by exact (List.getElem?_eq_some_iff.1 hj).1) hnd).1 (by rw [hj, hj'])
  · obtain ⟨j, b, hj, hjD, hb1, rfl, hwi⟩ := look p c hp
    simp only [hjD]
    rcases h.lies j b hb1 (by simpa using hd) with ⟨h0, h1⟩ | ⟨pre, hp', hl⟩
    · exact .inl ⟨h0, by simpa using h1⟩
    · refine .inr ⟨pre, hp'.ren (fun i hi hr => ?_), hl⟩
      have him := Blk.within_refs hwi hr
      have := pos_get js i him
      refine ⟨by rw [hlen]; exact (List.getElem?_eq_some_iff.1 this).1, ?_, ?_⟩ <;> simp [List.getD, this]
  · obtain ⟨j, b, hj, hjD, hb1, rfl, hwi⟩ := look p c hp
    left
    simp only [hjD] at hs ⊢
    refine List.mem_map.2 ⟨j, List.mem_filter.2 ⟨List.mem_of_getElem? hj, ?_⟩, rfl⟩
    have hd : b.isDead = false := by simpa using hd
    simp [hb1, hs, hd]
  · obtain ⟨j, b, hj, hjD, hb1, rfl, hwi⟩ := look p c hp
    left
    simp only [hjD] at hs ⊢
    refine List.mem_map.2 ⟨j, List.mem_filter.2 ⟨List.mem_of_getElem? hj, ?_⟩, rfl⟩
    have hd : b.wr = true := by simpa using hd
    simp [hb1, hs, hd]
  · obtain ⟨j, b, hj, hjD, hb1, rfl, hwi⟩ := look p c hp
    obtain ⟨j', b', hj', hjD', hb1', rfl, hwi'⟩ := look q d hq
    simp only [hjD, hjD'] at hsp hsq he
    have := h.inj j j' b b' hb1 hb1' (by simpa using hc) (by simpa using hd) (by simpa using hx) hsp hsq he
    subst this
    exact (List.getElem?_inj (by exact (List.getElem?_eq_some_iff.1 hj).1) hnd).1 (by rw [hj, hj'])

theorem RelL.callee {args : List SV} {js : List Nat} {bs : List Blk} {u : List Value} (hj : okJs tbl args js = true) (hb : pick tbl (pos js) js = some bs) (h : RelL tbl.length ρ σ args u) :
    RelL bs.length (fun p => ρ (js.getD p 0)) (fun p => σ (js.getD p 0)) (SV.renL (pos js) args) u := by
  simp only [okJs, Bool.and_eq_true] at hj
  refine RelL.ren args u (fun i hi hr => ?_) h
  have him := SV.withinL_refs args i hj.1.2 hr
  have := pos_get js i him
  refine ⟨by rw [(pick_get hb).1]; exact (List.getElem?_eq_some_iff.1 this).1, ?_, ?_⟩ <;> simp [List.getD, this]

/-- Read-only, all of it. -/
theorem TOK.toRo (h : TOK ρ σ B tbl w) (hB : B.w0 = w) : TOK ρ σ { A := B.A, W := [], AM := B.AM, WM := [], w0 := w } (tbl.map Blk.ro) w := by
  have look : ∀ (i : Nat) (c : Blk), (tbl.map Blk.ro)[i]? = some c → ∃ b, tbl[i]? = some b ∧ c = b.ro := fun i c hi => by
    rw [List.getElem?_map] at hi
    cases hb : tbl[i]? with
    | none => rw [hb] at hi; cases hi
    | some b => rw [hb] at hi; exact ⟨b, rfl, (Option.some.inj hi).symm⟩
  refine ⟨h.gOK (fun x hx => absurd hx (by simp)), Fr.refl _ _, fun i c hi hd => ?_, fun i c hi hd hs => ?_, fun i c hi hd hs => ?_, fun i j c d hi hj hc hd hx hsp hsq he => ?_, ?_⟩
  rotate_left 4
  · refine h.mok.via id (fun i c hi hm => ?_) (fun _ _ _ _ _ _ _ _ h => h)
    obtain ⟨b, hb, rfl⟩ := look i c hi
    refine ⟨b, hb, by simpa using hm, rfl, rfl, fun o ho => by rw [List.length_map]; exact ho.ro, fun hx => by simp at hx, fun hx => ?_, fun hx => by simp at hx⟩
    rwa [hB] at hx
  · obtain ⟨b, hb, rfl⟩ := look i c hi
    rcases h.lies i b hb (by simpa using hd) with ⟨h0, h1⟩ | ⟨pre, hp, hl⟩
    · exact .inl ⟨h0, by simpa using h1⟩
    · exact .inr ⟨pre, by rw [List.length_map]; exact hp.ro, hl⟩
  · obtain ⟨b, hb, rfl⟩ := look i c hi
    have := h.dom i b hb (by simpa using hd) hs
    rwa [hB] at this
  · obtain ⟨b, hb, rfl⟩ := look i c hi
    simp at hd
  · obtain ⟨b, hb, rfl⟩ := look i c hi
    obtain ⟨b', hb', rfl⟩ := look j d hj
    simp at hx

/-- Where the callee's blocks stand in the caller's table. -/
def back (js : List Nat) (n : Nat) (i : Nat) : Nat := match nth js i with
  | some j => j
  | none => n + (i - js.length)
mutual
def SV.refsAny (mv : List Nat) : SV → Bool
  | .v _ | .ia _ _ | .unk => false
  | .ptr i _ | .slc i _ _ _ _ | .mp i | .pix i _ _ _ _ => mem mv i
  | .agg l | .tup l => SV.refsAnyL mv l
  | .fn _ a b => SV.refsAnyL mv a || SV.refsAnyL mv b
  | .ifc _ s => SV.refsAny mv s
def SV.refsAnyL (mv : List Nat) : List SV → Bool
  | [] => false
  | a :: l => SV.refsAny mv a || SV.refsAnyL mv l
end
mutual
theorem SV.refsAny_false {mv : List Nat} : ∀ (s : SV) (i : Nat), s.refsAny mv = false → s.refs i = true → i ∉ mv
  | .v _, i, _, h => by simp [SV.refs] at h
  | .ia _ _, i, _, h => by simp [SV.refs] at h
  | .unk, i, _, h => by simp [SV.refs] at h
  | .ptr j _, i, hw, h => by simp only [SV.refsAny, SV.refs] at hw h; have := Nat.eq_of_beq_eq_true h; subst this; exact fun hm => by rw [(mem_iff _ _).2 hm] at hw; cases hw
  | .slc j _ _ _ _, i, hw, h => by simp only [SV.refsAny, SV.refs] at hw h; have := Nat.eq_of_beq_eq_true h; subst this; exact fun hm => by rw [(mem_iff _ _).2 hm] at hw; cases hw
  | .agg l, i, hw, h => by simp only [SV.refsAny, SV.refs] at hw h; exact SV.refsAnyL_false l i hw h
  | .tup l, i, hw, h => by simp only [SV.refsAny, SV.refs] at hw h; exact SV.refsAnyL_false l i hw h
  | .fn _ a b, i, hw, h => by
    simp only [SV.refsAny, SV.refs, Bool.or_eq_false_iff, Bool.or_eq_true] at hw h
    rcases h with h | h
    · exact SV.refsAnyL_false a i hw.1 h
    · exact SV.refsAnyL_false b i hw.2 h
  | .mp j, i, hw, h => by simp only [SV.refsAny, SV.refs] at hw h; have := Nat.eq_of_beq_eq_true h; subst this; exact fun hm => by rw [(mem_iff _ _).2 hm] at hw; cases hw
  | .pix j _ _ _ _, i, hw, h => by simp only [SV.refsAny, SV.refs] at hw h; have := Nat.eq_of_beq_eq_true h; subst this; exact fun hm => by rw [(mem_iff _ _).2 hm] at hw; cases hw
  | .ifc _ s, i, hw, h => by simp only [SV.refsAny, SV.refs] at hw h; exact SV.refsAny_false s i hw h
theorem SV.refsAnyL_false {mv : List Nat} : ∀ (s : List SV) (i : Nat), SV.refsAnyL mv s = false → SV.refsL i s = true → i ∉ mv
  | [], i, _, h => by simp [SV.refsL] at h
  | a :: l, i, hw, h => by
    simp only [SV.refsAnyL, SV.refsL, Bool.or_eq_false_iff, Bool.or_eq_true] at hw h
    rcases h with h | h
    · exact SV.refsAny_false a i hw.1 h
    · exact SV.refsAnyL_false l i hw.2 h
end
/-- What told of a block that has moved tells nothing any more. -/
def SV.purge (mv : List Nat) (s : SV) : SV := match s.refsAny mv with | true => .unk | false => s
def Blk.purge (mv : List Nat) : Blk → Blk
  | .cells w l => match mv with
    | [] => .cells w l
    | _ => .cells w (l.map (SV.purge mv))
  | .map w pl ks g => match pl with
    | true => .map w true ks g
    | false => match mv with
      | [] => .map w false ks g
      | _ => .map w false ks fun k => (g k).purge mv
  | b => b
def purgeEnv (mv : List Nat) : Env → Env
  | [] => []
  | (t, s) :: r => (t, s.purge mv) :: purgeEnv mv r
theorem Blk.purge_map (mv : List Nat) (w pl : Bool) (ks : KS) (g : Value → SV) : ∃ g', (Blk.map w pl ks g).purge mv = .map w pl ks g' := by
  cases pl with
  | true => exact ⟨_, rfl⟩
  | false => cases mv <;> exact ⟨_, rfl⟩
@[simp] theorem Blk.purge_dead (mv : List Nat) (b : Blk) : (b.purge mv).isDead = b.isDead := by
  cases b with
  | map w pl ks g => obtain ⟨g', h⟩ := Blk.purge_map mv w pl ks g; rw [h]; rfl
  | cells w l => cases mv <;> rfl
  | _ => rfl
@[simp] theorem Blk.purge_isMap (mv : List Nat) (b : Blk) : (b.purge mv).isMap = b.isMap := by
  cases b with
  | map w pl ks g => obtain ⟨g', h⟩ := Blk.purge_map mv w pl ks g; rw [h]; rfl
  | cells w l => cases mv <;> rfl
  | _ => rfl
@[simp] theorem Blk.purge_mw (mv : List Nat) (b : Blk) : (b.purge mv).mw = b.mw := by
  cases b with
  | map w pl ks g => obtain ⟨g', h⟩ := Blk.purge_map mv w pl ks g; rw [h]; rfl
  | cells w l => cases mv <;> rfl
  | _ => rfl
@[simp] theorem Blk.purge_wr (mv : List Nat) (b : Blk) : (b.purge mv).wr = b.wr := by
  cases b with
  | map w pl ks g => obtain ⟨g', h⟩ := Blk.purge_map mv w pl ks g; rw [h]; rfl
  | cells w l => cases mv <;> rfl
  | _ => rfl
@[simp] theorem Blk.purge_len (mv : List Nat) (b : Blk) : (b.purge mv).len = b.len := by
  cases b with
  | map w pl ks g => obtain ⟨g', h⟩ := Blk.purge_map mv w pl ks g; rw [h]; rfl
  | cells w l => cases mv <;> simp [Blk.purge, Blk.len]
  | _ => rfl

theorem Rel.purge {n n' : Nat} {ρ ρ' : Nat → Nat} {σ σ' : Nat → Nat × Nat} {mv : List Nat} (hn : n ≤ n') (hr : ∀ i, i < n → i ∉ mv → ρ' i = ρ i ∧ σ' i = σ i) {s : SV} {u : Value} (h : Rel n ρ σ s u) : Rel n' ρ' σ' (s.purge mv) u := by
  unfold SV.purge
  split
  · simp [Rel]
  · rename_i hf
    exact h.mono hn s u (fun i hi hx => hr i hi (SV.refsAny_false s i hf hx))
theorem RelL.purge {n n' : Nat} {ρ ρ' : Nat → Nat} {σ σ' : Nat → Nat × Nat} {mv : List Nat} (hn : n ≤ n') (hr : ∀ i, i < n → i ∉ mv → ρ' i = ρ i ∧ σ' i = σ i) : ∀ {l : List SV} {u : List Value}, RelL n ρ σ l u → RelL n' ρ' σ' (l.map (SV.purge mv)) u
  | [], u, h => by simpa [RelL] using h
  | a :: l, u, h => by
    simp only [RelL, List.map_cons] at h ⊢
    obtain ⟨b, m, h1, h2, h3⟩ := h
    exact ⟨b, m, h1, h2.purge hn hr, RelL.purge hn hr h3⟩
theorem Pre.purge {n n' : Nat} {ρ ρ' : Nat → Nat} {σ σ' : Nat → Nat × Nat} {mv : List Nat} (hn : n ≤ n') (hr : ∀ i, i < n → i ∉ mv → ρ' i = ρ i ∧ σ' i = σ i) {b : Blk} {u : List Value} (h : Pre n ρ σ b u) : Pre n' ρ' σ' (b.purge mv) u := by
  cases b with
  | dead => exact h.elim
  | cells w l =>
    cases mv with
    | nil => exact RelL.ext (s := l) h hn (fun i hi => hr i hi (by simp))
    | cons a r => exact RelL.purge hn hr h
  | ints w k l => exact h
  | tab w m cols => exact h
  | map w pl ks g => exact h.elim
theorem MapB.purge {n n' : Nat} {ρ ρ' : Nat → Nat} {σ σ' : Nat → Nat × Nat} {mv : List Nat} (hn : n ≤ n') (hr : ∀ i, i < n → i ∉ mv → ρ' i = ρ i ∧ σ' i = σ i) {b : Blk} {o : Obj} (h : MapB n ρ σ b o) : MapB n' ρ' σ' (b.purge mv) o := by
  cases b with
  | map w pl ks g =>
    obtain ⟨es, clock, h1, h2, h3, h4, h5, h6, h7⟩ := h
    have hk : ∀ e ∈ es.toList, e.key ∈ ks.vals := fun e he => h2.mem (List.mem_map_of_mem he)
    cases pl with
    | true => exact ⟨es, clock, h1, h2, h3, fun e he => Rel.plain (h7 rfl _ (hk e he)) (h4 e he), h5, h6, h7⟩
    | false =>
      cases mv with
      | nil => exact ⟨es, clock, h1, h2, h3, fun e he => (h4 e he).ext hn (fun i hi => hr i hi (by simp)), h5, h6, fun hf => by cases hf⟩
      | cons a r => exact ⟨es, clock, h1, h2, h3, fun e he => (h4 e he).purge hn hr, h5, h6, fun hf => by cases hf⟩
  | _ => exact h.elim
theorem look_purge {mv : List Nat} : ∀ {env : Env} {t : Nat} {s : SV}, look (purgeEnv mv env) t = some s → ∃ s', look env t = some s' ∧ s = s'.purge mv
  | [], t, s, h => by simp [purgeEnv, look] at h
  | (k, x) :: r, t, s, h => by
    simp only [purgeEnv, look] at h ⊢
    split at h
    · exact ⟨x, rfl, (Option.some.inj h).symm⟩
    · exact look_purge h
theorem EOK.purge {n n' : Nat} {ρ ρ' : Nat → Nat} {σ σ' : Nat → Nat × Nat} {mv : List Nat} {env : Env} {nt : Nat} {a : Act} (h : EOK ds n ρ σ env nt a) (hn : n ≤ n') (hr : ∀ i, i < n → i ∉ mv → ρ' i = ρ i ∧ σ' i = σ i) : EOK ds n' ρ' σ' (purgeEnv mv env) nt a :=
  ⟨h.size, h.defers, fun t s hs => by
    obtain ⟨s', h1, rfl⟩ := look_purge hs
    exact (h.get t s' h1).purge hn hr⟩

/-- The caller's table behind the call. -/
def merge (js : List Nat) (n : Nat) (tc : List Blk) (mv : List Nat) : Nat → List Blk → List Blk
  | _, [] => (tc.drop js.length).map (Blk.ren (back js n))
  | i, b :: r => (match mem js i with
      | true => match nth tc (pos js i) with
        | some c => c.ren (back js n)
        | none => b
      | false => b.purge mv) :: merge js n tc mv (i + 1) r

theorem merge_get {js : List Nat} {n : Nat} {tc : List Blk} {mv : List Nat} : ∀ (tbl : List Blk) (i0 k : Nat),
    (merge js n tc mv i0 tbl)[k]? = if k < tbl.length then (match tbl[k]? with
      | some b => some (if (i0 + k) ∈ js then ((tc[pos js (i0 + k)]?).map (Blk.ren (back js n))).getD b else b.purge mv)
      | none => none) else ((tc.drop js.length)[k - tbl.length]?).map (Blk.ren (back js n))
  | [], i0, k => by simp [merge]
  | b :: r, i0, 0 => by
    simp only [merge, List.getElem?_cons_zero, List.length_cons, Nat.zero_lt_succ, if_true, Nat.add_zero]
    by_cases h : i0 ∈ js
    · rw [if_pos h, (mem_iff _ _).2 h]
      simp only [nth_eq]
      cases tc[pos js i0]? <;> rfl
    · rw [if_neg h]
      have : mem js i0 = false := by cases hb : mem js i0 with | false => rfl | true => exact absurd ((mem_iff _ _).1 hb) h
      rw [this]
  | b :: r, i0, k + 1 => by
    simp only [merge, List.getElem?_cons_succ, merge_get r (i0 + 1) k, List.length_cons]
    rw [show i0 + 1 + k = i0 + (k + 1) by omega]
    by_cases hk : k < r.length
    · rw [if_pos hk, if_pos (by omega)]
    · rw [if_neg hk, if_neg (by omega)]
      congr 2; omega
theorem merge_length {js : List Nat} {n : Nat} {tc : List Blk} {mv : List Nat} : ∀ (tbl : List Blk) (i0 : Nat), (merge js n tc mv i0 tbl).length = tbl.length + (tc.length - js.length)
  | [], _ => by simp [merge]
  | b :: r, i0 => by simp [merge, merge_length r (i0 + 1)]; omega

/-- THE FRAME: what a function does to blocks of its own table, it does to these in the caller's. -/
theorem FnOK.frame {f : FuncId} {args : List SV} {js : List Nat} {bs : List Blk} {K : SV → List Blk → List Nat → Prop} {as : Array Value}
    (hf : FnOK P f (SV.renL (pos js) args) bs K) (hj : okJs tbl args js = true) (hb : pick tbl (pos js) js = some bs) (hT : TOK ρ σ B tbl w) (ha : RelL tbl.length ρ σ args as.toList) :
    Calls P f as w fun e w' => ∃ s v tc mv ρ' σ', e = .returned v ∧ K s tc mv ∧ Rel (merge js tbl.length tc (mv.map (back js tbl.length)) 0 tbl).length ρ' σ' (s.ren (back js tbl.length)) v ∧
      tbl.length ≤ (merge js tbl.length tc (mv.map (back js tbl.length)) 0 tbl).length ∧
      (∀ i, i < tbl.length → i ∉ mv.map (back js tbl.length) → ρ' i = ρ i ∧ σ' i = σ i) ∧ TOK ρ' σ' B (merge js tbl.length tc (mv.map (back js tbl.length)) 0 tbl) w' := by
  have hTc := hT.callee hj hb
  have hac := RelL.callee hj hb ha
  have hj0 := hj
  simp only [okJs, Bool.and_eq_true] at hj0
  have hnd := nodupB_iff _ hj0.1.1
  have hpk := pickOk_get hj0.2
  obtain ⟨hlen, hget⟩ := pick_get hb
  refine (hf _ _ _ as w hac hTc).mono ?_
  rintro e w' ⟨s, v, tc, mv, ρ', σ', he, hrel, hle, hag, hT', hK⟩
  have hml := merge_length (js := js) (n := tbl.length) (tc := tc) (mv := mv.map (back js tbl.length)) tbl 0
  have hgm := merge_get (js := js) (n := tbl.length) (tc := tc) (mv := mv.map (back js tbl.length)) tbl 0
  simp only [Nat.zero_add] at hgm
  generalize hTd : merge js tbl.length tc (mv.map (back js tbl.length)) 0 tbl = T at hml hgm
  let ρ2 : Nat → Nat := fun i => if i < tbl.length then (if i ∈ js then ρ' (pos js i) else ρ i) else ρ' (js.length + (i - tbl.length))
  let σ2 : Nat → Nat × Nat := fun i => if i < tbl.length then (if i ∈ js then σ' (pos js i) else σ i) else σ' (js.length + (i - tbl.length))
  have jslt : ∀ j ∈ js, j < tbl.length := fun j hj => by obtain ⟨b, h1, _⟩ := hpk j hj; exact (List.getElem?_eq_some_iff.1 h1).1
  have backs : ∀ i, i < tc.length → back js tbl.length i < T.length ∧ ρ2 (back js tbl.length i) = ρ' i ∧ σ2 (back js tbl.length i) = σ' i := fun i hi => by
    unfold back
    rw [nth_eq]
    by_cases hlt : i < js.length
    · have h1 : js[i]? = some js[i] := by simp [hlt]
      have h2 := pos_of js i _ hnd h1
      have h3 := jslt js[i] (List.getElem_mem hlt)
      rw [h1]
      simp only [ρ2, σ2, h3, if_true, List.getElem_mem, h2, and_self, and_true]
      omega
    · have h1 : js[i]? = none := by simp; omega
      rw [h1]
      have h3 : ¬ tbl.length + (i - js.length) < tbl.length := by omega
      have h4 : js.length + (tbl.length + (i - js.length) - tbl.length) = i := by omega
      simp only [ρ2, σ2, h3, if_false, h4, and_self, and_true]
      omega
  have agree : ∀ i, i < tbl.length → i ∉ mv.map (back js tbl.length) → ρ2 i = ρ i ∧ σ2 i = σ i := fun i hi hm => by
    by_cases hij : i ∈ js
    · have h1 := pos_get js i hij
      have h2 : pos js i < js.length := (List.getElem?_eq_some_iff.1 h1).1
      have h3 : pos js i ∉ mv := fun hx => hm (List.mem_map.2 ⟨_, hx, by unfold back; rw [nth_eq, h1]⟩)
      have h4 := hag (pos js i) (by omega) h3
      simp only [ρ2, σ2, hi, hij, if_true, h4]
      simp [List.getD, h1]
    · simp [ρ2, σ2, hi, hij]
  -- each entry of the new table
  have cases3 : ∀ i c, T[i]? = some c → (i < tbl.length ∧ i ∉ js ∧ ∃ b, tbl[i]? = some b ∧ c = b.purge (mv.map (back js tbl.length)) ∧ ρ2 i = ρ i ∧ σ2 i = σ i) ∨
      (∃ p d, tc[p]? = some d ∧ c = d.ren (back js tbl.length) ∧ ρ2 i = ρ' p ∧ σ2 i = σ' p ∧ i = back js tbl.length p) := fun i c hi => by
    rw [hgm i] at hi
    by_cases hlt : i < tbl.length
    · rw [if_pos hlt] at hi
      have hb1 : tbl[i]? = some tbl[i] := by simp [hlt]
      rw [hb1] at hi
      by_cases hij : i ∈ js
      · right
        have h1 := pos_get js i hij
        have h2 : pos js i < js.length := (List.getElem?_eq_some_iff.1 h1).1
        have h3 : tc[pos js i]? = some tc[pos js i] := by simp
        simp only [hij, if_true, h3, Option.map_some, Option.getD_some, Option.some.injEq] at hi
        exact ⟨pos js i, _, h3, hi.symm, by simp [ρ2, hlt, hij], by simp [σ2, hlt, hij], by unfold back; rw [nth_eq, h1]⟩
      · left
        simp only [hij, if_false, Option.some.injEq] at hi
        exact ⟨hlt, hij, _, hb1, hi.symm, by simp [ρ2, hlt, hij], by simp [σ2, hlt, hij]⟩
    · right
      rw [if_neg hlt, List.getElem?_drop] at hi
      cases hd : tc[js.length + (i - tbl.length)]? with
      | none => rw [hd] at hi; cases hi
      | some d =>
        rw [hd] at hi
        refine ⟨_, d, hd, (Option.some.inj hi).symm, by simp [ρ2, hlt], by simp [σ2, hlt], ?_⟩
        unfold back
        have : js[js.length + (i - tbl.length)]? = none := by simp
        rw [nth_eq, this]
        show i = tbl.length + (js.length + (i - tbl.length) - js.length)
        omega
  refine ⟨s, v, tc, mv, ρ2, σ2, he, hK, ?_⟩
  rw [hTd]
  refine ⟨Rel.ren s v (fun i hi _ => backs i hi) hrel, by omega, agree, ?_⟩
  have oldblock : ∀ i b, tbl[i]? = some b → b.isDead = false → i ∉ js → (σ i).1 ≠ 0 → w'.heap[ρ i]? = w.heap[ρ i]? := fun i b hi hd hij hs => by
    refine hT'.fr.block (ρ i) (hT.lt hi hd hs) (fun hm => ?_)
    rcases List.mem_append.1 hm with hm | hm
    · obtain ⟨j, hj1, hj2⟩ := List.mem_map.1 hm
      have hj3 := (List.mem_filter.1 hj1)
      simp at hj3
      obtain ⟨b', hb', _⟩ := hpk j hj3.1
      have hw' : b'.wr = true := by have := hj3.2.2; rw [hb'] at this; exact this
      have := hT.inj i j b b' hi hb' hd (isDead_of_wr hw') (by rw [hw', Bool.or_true]) hs hj3.2.1 hj2.symm
      exact hij (this ▸ hj3.1)
    · obtain ⟨j, hj1, hj2⟩ := List.mem_map.1 hm
      have hj3 := (List.mem_filter.1 hj1)
      obtain ⟨b', hb', _⟩ := hpk j hj3.1
      have hw' : b'.mw = true := by have := hj3.2; rw [hb'] at this; exact this
      exact hT.map_ne hi hd hs hb' (isMap_of_mw hw') hj2
  have oldmap : ∀ i b, tbl[i]? = some b → b.isMap = true → i ∉ js → w'.heap[ρ i]? = w.heap[ρ i]? := fun i b hi hd hij => by
    refine hT'.fr.block (ρ i) (hT.mlt hi hd) (fun hm => ?_)
    rcases List.mem_append.1 hm with hm | hm
    · obtain ⟨j, hj1, hj2⟩ := List.mem_map.1 hm
      have hj3 := (List.mem_filter.1 hj1)
      simp at hj3
      obtain ⟨b', hb', _⟩ := hpk j hj3.1
      have hw' : b'.wr = true := by have := hj3.2.2; rw [hb'] at this; exact this
      exact hT.map_ne hb' (isDead_of_wr hw') hj3.2.1 hi hd hj2.symm
    · obtain ⟨j, hj1, hj2⟩ := List.mem_map.1 hm
      have hj3 := (List.mem_filter.1 hj1)
      obtain ⟨b', hb', _⟩ := hpk j hj3.1
      have hw' : b'.mw = true := by have := hj3.2; rw [hb'] at this; exact this
      have := hT.mok.inj i j b b' hi hb' hd (isMap_of_mw hw') hj2.symm
      exact hij (this ▸ hj3.1)
  have domm : ∀ p d, tc[p]? = some d → d.isMap = true → (∃ j b, j ∈ js ∧ tbl[j]? = some b ∧ b.isMap = true ∧ ρ j = ρ' p) ∨ w.heap.size ≤ ρ' p := fun p d hp hd => by
    rcases hT'.mok.dom p d hp hd with h1 | h1
    · obtain ⟨j, hj1, hj2⟩ := List.mem_map.1 h1
      have hj3 := (List.mem_filter.1 hj1)
      obtain ⟨b', hb', _⟩ := hpk j hj3.1
      exact .inl ⟨j, b', hj3.1, hb', by have := hj3.2; rw [hb'] at this; simpa using this, hj2⟩
    · exact .inr h1
  have apartm : ∀ i b p d, tbl[i]? = some b → b.isMap = true → i ∉ js → tc[p]? = some d → d.isMap = true → ρ i ≠ ρ' p := fun i b p d hi hd hij hp hdd heq => by
    rcases domm p d hp hdd with ⟨j, b', h1, h2, h3, h5⟩ | h1
    · have := hT.mok.inj i j b b' hi h2 hd h3 (heq.trans h5.symm)
      exact hij (this ▸ h1)
    · have := hT.mlt hi hd
      omega
  have domc : ∀ p d, tc[p]? = some d → d.isDead = false → (σ' p).1 ≠ 0 → (∃ j b, j ∈ js ∧ tbl[j]? = some b ∧ b.isDead = false ∧ (σ j).1 ≠ 0 ∧ ρ j = ρ' p) ∨ w.heap.size ≤ ρ' p := fun p d hp hd hs => by
    rcases hT'.dom p d hp hd hs with h1 | h1
    · obtain ⟨j, hj1, hj2⟩ := List.mem_map.1 h1
      have hj3 := (List.mem_filter.1 hj1)
      simp at hj3
      obtain ⟨b', hb', _⟩ := hpk j hj3.1
      exact .inl ⟨j, b', hj3.1, hb', by have := hj3.2.2; rw [hb'] at this; simpa using this, hj3.2.1, hj2⟩
    · exact .inr h1
  have domcw : ∀ p d, tc[p]? = some d → d.wr = true → (σ' p).1 ≠ 0 → (∃ j b, j ∈ js ∧ tbl[j]? = some b ∧ b.wr = true ∧ (σ j).1 ≠ 0 ∧ ρ j = ρ' p) ∨ w.heap.size ≤ ρ' p := fun p d hp hd hs => by
    rcases hT'.domw p d hp hd hs with h1 | h1
    · obtain ⟨j, hj1, hj2⟩ := List.mem_map.1 h1
      have hj3 := (List.mem_filter.1 hj1)
      simp at hj3
      obtain ⟨b', hb', _⟩ := hpk j hj3.1
      exact .inl ⟨j, b', hj3.1, hb', by have := hj3.2.2; rw [hb'] at this; exact this, hj3.2.1, hj2⟩
    · exact .inr h1
  have apart : ∀ i b p d, tbl[i]? = some b → b.isDead = false → i ∉ js → (σ i).1 ≠ 0 → tc[p]? = some d → d.isDead = false → (b.wr || d.wr) = true → (σ' p).1 ≠ 0 → ρ i ≠ ρ' p := fun i b p d hi hd hij hs hp hdd hx hsp heq => by
    cases hbw : b.wr with
    | true =>
      rcases domc p d hp hdd hsp with ⟨j, b', h1, h2, h3, h4, h5⟩ | h1
      · have := hT.inj i j b b' hi h2 hd h3 (by rw [hbw, Bool.true_or]) hs h4 (heq.trans h5.symm)
        exact hij (this ▸ h1)
      · have := hT.lt hi hd hs
        omega
    | false =>
      rw [hbw, Bool.false_or] at hx
      rcases domcw p d hp hx hsp with ⟨j, b', h1, h2, h3, h4, h5⟩ | h1
      · have := hT.inj i j b b' hi h2 hd (isDead_of_wr h3) (by rw [h3, Bool.or_true]) hs h4 (heq.trans h5.symm)
        exact hij (this ▸ h1)
      · have := hT.lt hi hd hs
        omega
  refine ⟨hT.gl, hT.fr.call hT'.fr (fun k hk => ?_), fun i c hi hd => ?_, fun i c hi hd hs => ?_, fun i c hi hd hs => ?_, fun i i' c c' hi hi' hd hd' hx hs hs' heq => ?_, ?_⟩
  rotate_left 5
  · refine ⟨fun i c hi hm => ?_, fun i c hi hm => ?_, fun i c hi hm => ?_, fun i i' c c' hi hi' hd hd' heq => ?_⟩
    · rcases cases3 i c hi with ⟨hlt, hij, b, hb1, rfl, e1, e2⟩ | ⟨p, d, hp, rfl, e1, e2, _⟩
      · have hm : b.isMap = true := by simpa using hm
        obtain ⟨o, h1, h2⟩ := hT.mok.is i b hb1 hm
        refine ⟨o, ?_, h2.purge (by omega) agree⟩
        rw [e1, oldmap i b hb1 hm hij]; exact h1
      · have hm : d.isMap = true := by simpa using hm
        obtain ⟨o, h1, h2⟩ := hT'.mok.is p d hp hm
        refine ⟨o, ?_, h2.ren (fun i hi _ => backs i hi) (fun s hs u hu => Rel.plain hs hu)⟩
        rw [e1]; exact h1
    · rcases cases3 i c hi with ⟨hlt, hij, b, hb1, rfl, e1, e2⟩ | ⟨p, d, hp, rfl, e1, e2, _⟩
      · rw [e1]; exact hT.mok.dom i b hb1 (by simpa using hm)
      · rw [e1]
        rcases domm p d hp (by simpa using hm) with ⟨j, b', h1, h2, h3, h5⟩ | h1
        · rw [← h5]; exact hT.mok.dom j b' h2 h3
        · right; have := hT.fr.size; omega
    · rcases cases3 i c hi with ⟨hlt, hij, b, hb1, rfl, e1, e2⟩ | ⟨p, d, hp, rfl, e1, e2, _⟩
      · rw [e1]; exact hT.mok.domw i b hb1 (by simpa using hm)
      · rw [e1]
        rcases hT'.mok.domw p d hp (by simpa using hm) with h1 | h1
        · obtain ⟨j, hj1, hj2⟩ := List.mem_map.1 h1
          have hj3 := (List.mem_filter.1 hj1)
          obtain ⟨b', hb', _⟩ := hpk j hj3.1
          have hw' : b'.mw = true := by have := hj3.2; rw [hb'] at this; exact this
          rw [← hj2]; exact hT.mok.domw j b' hb' hw'
        · right; have := hT.fr.size
          have : w.heap.size ≤ ρ' p := h1
          omega
    · rcases cases3 i c hi with ⟨hlt, hij, b, hb1, rfl, e1, e2⟩ | ⟨p, d, hp, rfl, e1, e2, e3⟩ <;>
        rcases cases3 i' c' hi' with ⟨hlt', hij', b', hb1', rfl, e1', e2'⟩ | ⟨p', d', hp', rfl, e1', e2', e3'⟩
      · rw [e1, e1'] at heq
        exact hT.mok.inj i i' b b' hb1 hb1' (by simpa using hd) (by simpa using hd') heq
      · rw [e1, e1'] at heq
        exact absurd heq (apartm i b p' d' hb1 (by simpa using hd) hij hp' (by simpa using hd'))
      · rw [e1, e1'] at heq
        exact absurd heq.symm (apartm i' b' p d hb1' (by simpa using hd') hij' hp (by simpa using hd))
      · rw [e1, e1'] at heq
        have := hT'.mok.inj p p' d d' hp hp' (by simpa using hd) (by simpa using hd') heq
        rw [e3, e3', this]
  · rcases List.mem_append.1 hk with hk | hk
    · obtain ⟨j, hj1, rfl⟩ := List.mem_map.1 hk
      have hj3 := (List.mem_filter.1 hj1)
      simp at hj3
      obtain ⟨b', hb', _⟩ := hpk j hj3.1
      have hw' : b'.wr = true := by have := hj3.2.2; rw [hb'] at this; exact this
      exact (hT.domw j b' hb' hw' hj3.2.1).imp_left (List.mem_append_left _)
    · obtain ⟨j, hj1, rfl⟩ := List.mem_map.1 hk
      have hj3 := (List.mem_filter.1 hj1)
      obtain ⟨b', hb', _⟩ := hpk j hj3.1
      have hw' : b'.mw = true := by have := hj3.2; rw [hb'] at this; exact this
      exact (hT.mok.domw j b' hb' hw').imp_left (List.mem_append_right _)
  · rcases cases3 i c hi with ⟨hlt, hij, b, hb1, rfl, e1, e2⟩ | ⟨p, d, hp, rfl, e1, e2, _⟩
    · rw [e1, e2]
      have hd : b.isDead = false := by simpa using hd
      rcases hT.lies i b hb1 hd with ⟨h0, h1⟩ | ⟨pre, hpre, hl⟩
      · exact .inl ⟨h0, by simpa using h1⟩
      · by_cases hs : (σ i).1 = 0
        · refine .inl ⟨hs, ?_⟩
          have := hl.pre_le
          have := hpre.length
          simp; omega
        · exact .inr ⟨pre, hpre.purge (by omega) agree, hl.of_block (oldblock i b hb1 hd hij hs)⟩
    · rw [e1, e2]
      rcases hT'.lies p d hp (by simpa using hd) with ⟨h0, h1⟩ | ⟨pre, hpre, hl⟩
      · exact .inl ⟨h0, by simpa using h1⟩
      · exact .inr ⟨pre, hpre.ren (fun i hi _ => backs i hi), hl⟩
  · rcases cases3 i c hi with ⟨hlt, hij, b, hb1, rfl, e1, e2⟩ | ⟨p, d, hp, rfl, e1, e2, _⟩
    · rw [e1]; rw [e2] at hs; exact hT.dom i b hb1 (by simpa using hd) hs
    · rw [e1]; rw [e2] at hs
      rcases domc p d hp (by simpa using hd) hs with ⟨j, b', h1, h2, h3, h4, h5⟩ | h1
      · rw [← h5]; exact hT.dom j b' h2 h3 h4
      · right; have := hT.fr.size; omega
  · rcases cases3 i c hi with ⟨hlt, hij, b, hb1, rfl, e1, e2⟩ | ⟨p, d, hp, rfl, e1, e2, _⟩
    · rw [e1]; rw [e2] at hs; exact hT.domw i b hb1 (by simpa using hd) hs
    · rw [e1]; rw [e2] at hs
      rcases hT'.domw p d hp (by simpa using hd) hs with h1 | h1
      · obtain ⟨j, hj1, hj2⟩ := List.mem_map.1 h1
        have hj3 := (List.mem_filter.1 hj1)
        simp at hj3
        obtain ⟨b', hb', _⟩ := hpk j hj3.1
        have hw' : b'.wr = true := by have := hj3.2.2; rw [hb'] at this; exact this
        rw [← hj2]; exact hT.domw j b' hb' hw' hj3.2.1
      · right; have := hT.fr.size
        have : w.heap.size ≤ ρ' p := h1
        omega
  · rcases cases3 i c hi with ⟨hlt, hij, b, hb1, rfl, e1, e2⟩ | ⟨p, d, hp, rfl, e1, e2, e3⟩ <;>
      rcases cases3 i' c' hi' with ⟨hlt', hij', b', hb1', rfl, e1', e2'⟩ | ⟨p', d', hp', rfl, e1', e2', e3'⟩
    · rw [e1, e1'] at heq; rw [e2] at hs; rw [e2'] at hs'
      exact hT.inj i i' b b' hb1 hb1' (by simpa using hd) (by simpa using hd') (by simpa using hx) hs hs' heq
    · rw [e1, e1'] at heq; rw [e2] at hs; rw [e2'] at hs'
      exact absurd heq (apart i b p' d' hb1 (by simpa using hd) hij hs hp' (by simpa using hd') (by simpa using hx) hs')
    · rw [e1, e1'] at heq; rw [e2] at hs; rw [e2'] at hs'
      exact absurd heq.symm (apart i' b' p d hb1' (by simpa using hd') hij' hs' hp (by simpa using hd) (by simpa [Or.comm] using hx) hs)
    · rw [e1, e1'] at heq; rw [e2] at hs; rw [e2'] at hs'
      have := hT'.inj p p' d d' hp hp' (by simpa using hd) (by simpa using hd') (by simpa using hx) hs hs' heq
      rw [e3, e3', this]

end
/-! ### One form for what is all numbers -/
def SV.norm : SV → SV
  | .agg l => match l with
    | .v (.int k x) :: r => match toInts k r with
      | some m => .ia k (x :: m)
      | none => .agg l
    | _ => .agg l
  | s => s
def normL : List SV → List SV
  | [] => []
  | s :: l => s.norm :: normL l
def SV.normT : SV → SV
  | .tup l => .tup (normL l)
  | s => s.norm
def Blk.norm : Blk → Blk
  | .cells w l => match l with
    | .v (.int k x) :: r => match toInts k r with
      | some m => .ints w k (x :: m)
      | none => .cells w l
    | _ => .cells w l
  | b => b
def normB : List Blk → List Blk
  | [] => []
  | b :: l => b.norm :: normB l

section
variable {n : Nat} {ρ : Nat → Nat} {σ : Nat → Nat × Nat} {B : Base} {w : World}
theorem Rel.norm {s : SV} {u : Value} (h : Rel n ρ σ s u) : Rel n ρ σ s.norm u := by
  cases s with
  | agg l =>
    simp only [SV.norm]
    split
    · rename_i k x r
      split
      · rename_i m hm
        simp only [Rel] at h ⊢
        obtain ⟨cs, rfl, h⟩ := h
        simp only [RelL] at h
        obtain ⟨b, y, h1, h2, h3⟩ := h
        simp only [Rel] at h2
        subst h2
        have := toInts_rel hm h3
        congr 1
        apply Array.ext'
        rw [h1, this]; simp
      · exact h
    · exact h
  | _ => exact h
theorem RelL.norm : ∀ {l : List SV} {u : List Value}, RelL n ρ σ l u → RelL n ρ σ (normL l) u
  | [], u, h => h
  | a :: l, u, h => by
    simp only [RelL, normL] at h ⊢
    obtain ⟨b, m, h1, h2, h3⟩ := h
    exact ⟨b, m, h1, h2.norm, RelL.norm h3⟩
theorem Rel.normT {s : SV} {u : Value} (h : Rel n ρ σ s u) : Rel n ρ σ s.normT u := by
  cases s with
  | tup l =>
    simp only [SV.normT, Rel] at h ⊢
    obtain ⟨cs, h1, h2⟩ := h
    exact ⟨cs, h1, h2.norm⟩
  | _ => exact h.norm
theorem Pre.norm {b : Blk} {u : List Value} (h : Pre n ρ σ b u) : Pre n ρ σ b.norm u := by
  cases b with
  | cells w l =>
    simp only [Blk.norm]
    split
    · rename_i k x r
      split
      · rename_i m hm
        simp only [Pre, RelL] at h ⊢
        obtain ⟨b, y, h1, h2, h3⟩ := h
        simp only [Rel] at h2
        subst h2
        have := toInts_rel hm h3
        rw [h1, this]; simp
      · exact h
    · exact h
  | _ => exact h
theorem toInts_len {k : IntKind} : ∀ (l : List SV) (r : List Int), toInts k l = some r → r.length = l.length
  | [], r, h => by simp [toInts] at h; subst h; rfl
  | a :: l, r, h => by
    unfold toInts at h
    split at h
    · simp at h; simp_all
    · rename_i heq
      simp at heq
      obtain ⟨rfl, rfl⟩ := heq
      split at h
      · rename_i r' _ hr'
        simp at h; subst h
        simp [toInts_len _ _ hr']
      · cases h
    · cases h
@[simp] theorem Blk.norm_dead (b : Blk) : b.norm.isDead = b.isDead := by
  cases b with
  | cells w l => simp only [Blk.norm]; split <;> (try split) <;> rfl
  | _ => rfl
@[simp] theorem Blk.norm_isMap (b : Blk) : b.norm.isMap = b.isMap := by
  cases b with
  | cells w l => simp only [Blk.norm]; split <;> (try split) <;> rfl
  | _ => rfl
@[simp] theorem Blk.norm_mw (b : Blk) : b.norm.mw = b.mw := by
  cases b with
  | cells w l => simp only [Blk.norm]; split <;> (try split) <;> rfl
  | _ => rfl
theorem MapB.norm {b : Blk} {o : Obj} (h : MapB n ρ σ b o) : MapB n ρ σ b.norm o := by
  cases b with
  | map w pl ks g => exact h
  | _ => exact h.elim
@[simp] theorem Blk.norm_wr (b : Blk) : b.norm.wr = b.wr := by
  cases b with
  | cells w l => simp only [Blk.norm]; split <;> (try split) <;> rfl
  | _ => rfl
@[simp] theorem Blk.norm_len (b : Blk) : b.norm.len = b.len := by
  cases b with
  | cells w l =>
    simp only [Blk.norm]
    split
    · split
      · rename_i m hm; simp [Blk.len, toInts_len _ _ hm]
      · rfl
    · rfl
  | _ => rfl
theorem normB_eq : ∀ l : List Blk, normB l = l.map Blk.norm
  | [] => rfl
  | b :: l => by simp [normB, normB_eq l]
theorem TOK.norm {tbl : List Blk} (h : TOK ρ σ B tbl w) : TOK ρ σ B (normB tbl) w := by
  rw [normB_eq]
  have look : ∀ (i : Nat) (c : Blk), (tbl.map Blk.norm)[i]? = some c → ∃ b, tbl[i]? = some b ∧ c = b.norm := fun i c hi => by
    rw [List.getElem?_map] at hi
    cases hb : tbl[i]? with
    | none => rw [hb] at hi; cases hi
    | some b => rw [hb] at hi; exact ⟨b, rfl, (Option.some.inj hi).symm⟩
  refine ⟨h.gl, h.fr, fun i c hi hd => ?_, fun i c hi hd hs => ?_, fun i c hi hd hs => ?_, fun i j c d hi hj hc hd hx hsp hsq he => ?_, ?_⟩
  rotate_left 4
  · refine h.mok.via id (fun i c hi hm => ?_) (fun _ _ _ _ _ _ _ _ h => h)
    obtain ⟨b, hb, rfl⟩ := look i c hi
    exact ⟨b, hb, by simpa using hm, rfl, rfl, fun o ho => by rw [List.length_map]; exact ho.norm, by simp, fun h => h, fun _ h => h⟩
  · obtain ⟨b, hb, rfl⟩ := look i c hi
    rcases h.lies i b hb (by simpa using hd) with ⟨h0, h1⟩ | ⟨pre, hp, hl⟩
    · exact .inl ⟨h0, by simpa using h1⟩
    · exact .inr ⟨pre, by rw [List.length_map]; exact hp.norm, hl⟩
  · obtain ⟨b, hb, rfl⟩ := look i c hi
    exact h.dom i b hb (by simpa using hd) hs
  · obtain ⟨b, hb, rfl⟩ := look i c hi
    exact h.domw i b hb (by simpa using hd) hs
  · obtain ⟨b, hb, rfl⟩ := look i c hi
    obtain ⟨b', hb', rfl⟩ := look j d hj
    exact h.inj i j b b' hb hb' (by simpa using hc) (by simpa using hd) (by simpa using hx) hsp hsq he
end
/-- The callee may be met with the one form. -/
theorem FnOK.normed {P : Program} {f : FuncId} {args : List SV} {tbl : List Blk} {K : SV → List Blk → List Nat → Prop} (h : FnOK P f (normL args) (normB tbl) K) : FnOK P f args tbl K :=
  fun B ρ σ as w hr hT => by
    have hl : (normB tbl).length = tbl.length := by rw [normB_eq]; simp
    have := h B ρ σ as w (by rw [hl]; exact hr.norm) hT.norm
    rw [hl] at this
    exact this

end Go.Proofs.YtmnenigmkfnciaaGreatDoor.Sx
