/- The operations of the walk by computation that write or make memory. No condition. -/
import Derived.Test.YtmnenigmkfnciaaGreatDoorSx6
import Derived.Lib.ConvBytes
namespace Go.Proofs.YtmnenigmkfnciaaGreatDoor.Sx
open Go
variable {ds : List Deferred}

structure St where
  env : Env
  nt : Nat
  tbl : List Blk
  mv : List Nat
  n0 : Nat

/-- A value that one cell holds. -/
def SV.one : SV → Bool
  | .v x => x.oneCell'
  | .ptr _ _ | .slc _ _ _ _ _ | .fn _ _ _ | .mp _ | .ifc _ _ | .pix _ _ _ _ _ => true
  | _ => false
def allOne : List SV → Bool
  | [] => true
  | s :: l => s.one && allOne l
theorem SV.one_rel {n : Nat} {ρ : Nat → Nat} {σ : Nat → Nat × Nat} {s : SV} {v : Value} (h : s.one = true) (hr : Rel n ρ σ s v) : v.oneCell' = true := by
  cases s with
  | v x => simp only [Rel] at hr; subst hr; exact h
  | ptr i o => simp only [Rel] at hr; rw [hr.2]; rfl
  | slc i o l c s =>
    simp only [Rel] at hr
    rcases hr with ⟨_, _, h | ⟨_, _, h, _⟩⟩
    · rw [h.1]; rfl
    · rw [h]; rfl
  | fn f a b => simp only [Rel] at hr; obtain ⟨_, _, h, _⟩ := hr; rw [h]; rfl
  | mp i => simp only [Rel] at hr; rw [hr.2]; rfl
  | ifc t s => simp only [Rel] at hr; obtain ⟨_, h, _⟩ := hr; rw [h]; rfl
  | pix i o s ix c => simp only [Rel] at hr; rw [hr.2]; rfl
  | agg l => cases h
  | ia k l => cases h
  | tup l => cases h
  | unk => cases h
theorem allOne_rel {n : Nat} {ρ : Nat → Nat} {σ : Nat → Nat × Nat} : ∀ {l : List SV} {u : List Value}, allOne l = true → RelL n ρ σ l u → ∀ v ∈ u, v.oneCell' = true
  | [], u, _, hr, v, hv => by simp only [RelL] at hr; subst hr; cases hv
  | s :: l, u, h, hr, v, hv => by
    simp only [RelL] at hr
    obtain ⟨b, m, rfl, h1, h2⟩ := hr
    simp only [allOne, Bool.and_eq_true] at h
    rcases List.mem_cons.1 hv with rfl | hv
    · exact SV.one_rel h.1 h1
    · exact allOne_rel h.2 h2 v hv

/-- The block that a value makes. -/
def boxBlk : SV → Option Blk
  | .ia k l => some (.ints true k l)
  | s => match s.cs with
    | some c => some (.cells true c)
    | none => none
theorem boxBlk_pre {n : Nat} {ρ : Nat → Nat} {σ : Nat → Nat × Nat} {s : SV} {b : Blk} {v : Value} (h : boxBlk s = some b) (hr : Rel n ρ σ s v) : Pre n ρ σ b v.cells.toList ∧ b.wr = true := by
  unfold boxBlk at h
  split at h
  · rename_i k l
    simp at h; subst h
    simp only [Rel] at hr; subst hr
    simp [Pre, Value.cells, Blk.wr]
  · split at h
    · rename_i c hc
      simp at h; subst h
      exact ⟨SV.cs_rel hc hr, rfl⟩
    · cases h

/-- A store of a value's cells into a block, from 'off' on, 'n' cells. -/
def storeB (b : Blk) (off n : Nat) (s : SV) (K : Blk → Prop) : Prop :=
  match b, s with
  | .cells true l, .ia k x => match Nat.beq off 0, Nat.beq l.length n with
    | true, true => ob (Nat.beq x.length n) (K (.ints true k x))
    | _, _ => False
  | .cells true l, s => match s.cs with
    | some [c] => match Nat.beq n 1, c.one, Nat.ble (off + 1) l.length with
      | true, true, true => K (.cells true (l.set off c))
      | _, _, _ => False
    | some c => match Nat.beq c.length n, allOne c, Nat.ble (off + n) l.length with
      | true, true, true => K (.cells true (putAt l off c))
      | _, _, _ => False
    | none => False
  | .ints true k l, .v (.int k' x) => match decide (k' = k), Nat.beq n 1 with
    | true, true => ob (decide (off < l.length)) (K (.ints true k (l.set off x)))
    | _, _ => False
  | .ints true k l, .ia k' x => match decide (k' = k), Nat.beq off 0 with
    | true, true => ob (decide (x.length = n)) (ob (decide (l.length = n)) (K (.ints true k x)))
    | true, false => ob (Nat.beq x.length n && decide (off + n ≤ l.length)) (K (.ints true k (putAt l off x)))
    | false, _ => False
  | .ints true k l, .agg c => match toInts k c with
    | some x => match Nat.beq x.length n with
      | true => ob (decide (off + n ≤ l.length)) (K (.ints true k (putAt l off x)))
      | false => False
    | none => False
  | _, _ => False

theorem putAt_one {α : Type} (l : List α) (o : Nat) (x : α) (h : o < l.length) : putAt l o [x] = l.set o x := by
  rw [putAt_cons _ _ _ _ (by omega), if_pos h, putAt_nil]

section
variable {P : Program} {ρ : Nat → Nat} {σ : Nat → Nat × Nat} {B : Base} {tbl : List Blk} {w : World}

/-- What a store of these cells leaves. -/
theorem store_lies {i off : Nat} {b c : Blk} {vs : List Value} (hT : TOK ρ σ B tbl w) (hi : nth tbl i = some b) (hw : b.wr = true) (h1 : ∀ v ∈ vs, v.oneCell' = true) (hc : c.isDead = false)
    (hpre : ∀ pre, Pre tbl.length ρ σ b pre → off + vs.length ≤ pre.length ∧ Pre tbl.length ρ σ c (putAt pre off vs)) :
    ∃ w', (storeCells ⟨ρ i, (σ i).2 + off, none⟩ vs).run P w = .ok () w' ∧ TOK ρ σ B (tbl.set i c) w' := by
  rw [nth_eq] at hi
  have hdb := isDead_of_wr hw
  have hil : i < tbl.length := (List.getElem?_eq_some_iff.1 hi).1
  have hclen : ∀ pre, Pre tbl.length ρ σ b pre → c.len = b.len := fun pre hp => by
    have h2 := hpre pre hp
    have h3 := h2.2.length
    rw [putAt_length _ _ _ (by omega)] at h3
    have := hp.length
    omega
  by_cases hs : (σ i).1 = 0
  · -- nothing there: nothing is stored
    have hvs : vs = [] ∧ c.len = 0 := by
      rcases hT.lies i b hi hdb with ⟨_, h0⟩ | ⟨pre, hp, hl⟩
      · obtain ⟨pre, hp⟩ : ∃ pre, Pre tbl.length ρ σ b pre := by
          cases b with
          | dead => cases hdb
          | cells w l => exact ⟨[], by have : l = [] := List.length_eq_zero_iff.1 h0; subst this; simp [Pre, RelL]⟩
          | ints w k l => exact ⟨[], by have : l = [] := List.length_eq_zero_iff.1 h0; subst this; simp [Pre]⟩
          | tab w n cols => exact ⟨_, rfl⟩
          | map w pl ks g => cases hw
        have := hpre pre hp
        have h4 := hp.length
        exact ⟨List.length_eq_zero_iff.1 (by omega), by rw [hclen pre hp]; exact h0⟩
      · have := hpre pre hp
        have h4 := hl.pre_le
        have h5 := hp.length
        exact ⟨List.length_eq_zero_iff.1 (by omega), by rw [hclen pre hp]; omega⟩
    obtain ⟨rfl, hcl⟩ := hvs
    refine ⟨w, rfl, ⟨hT.gl, hT.fr, fun j d hj hd => ?_, fun j d hj hd hsj => ?_, fun j d hj hd hsj => ?_, fun j j' d d' hj hj' hd hd' hx hsj hsj' he => ?_, ?_⟩⟩
    rotate_left 4
    · refine hT.mok.via id (fun j d hj hm => ?_) (fun _ _ _ _ _ _ _ _ h => h)
      rcases getElem?_setS hj with ⟨e, hj⟩ | ⟨rfl, rfl⟩
      · exact ⟨d, hj, hm, rfl, rfl, fun o ho => by rw [List.length_set]; exact ho, fun h => h, fun h => h, fun _ h => h⟩
      · rw [not_isMap hc] at hm; cases hm
    · rw [List.length_set]
      rcases getElem?_setS hj with ⟨e, hj⟩ | ⟨rfl, rfl⟩
      · exact hT.lies j d hj hd
      · exact .inl ⟨hs, hcl⟩
    · rcases getElem?_setS hj with ⟨e, hj⟩ | ⟨rfl, rfl⟩
      · exact hT.dom j d hj hd hsj
      · exact absurd hs hsj
    · rcases getElem?_setS hj with ⟨e, hj⟩ | ⟨rfl, rfl⟩
      · exact hT.domw j d hj hd hsj
      · exact absurd hs hsj
    · rcases getElem?_setS hj with ⟨e, hj1⟩ | ⟨e1, e2⟩ <;> rcases getElem?_setS hj' with ⟨e', hj1'⟩ | ⟨e3, e4⟩
      · exact hT.inj j j' d d' hj1 hj1' hd hd' hx hsj hsj' he
      · subst e3; exact absurd hs hsj'
      · subst e1; exact absurd hs hsj
      · omega
  · rcases hT.lies i b hi hdb with ⟨h0, _⟩ | ⟨pre, hp, hl⟩
    · exact absurd h0 hs
    · obtain ⟨h2, h3⟩ := hpre pre hp
      obtain ⟨w', hr, hl', hb⟩ := run_storeCells_lies (P := P) off vs 0 pre w hl (by omega) (by have := hl.pre_le; omega) h1
      exact ⟨w', hr, hT.but hi hw hs hb hc ⟨_, h3, hl'⟩⟩

theorem run_storeVar {t : TypeId} {n : Nat} (hn : sizeT P t = some n) {a : Addr} {v : Value} (hv : v.cells.size = n) {w' : World} (h : (storeCells a v.cells.toList).run P w = .ok () w') : (storeVar t a v).run P w = .ok () w' := by
  unfold storeVar
  rw [Sem.run_bind, run_sizeT w hn]
  simp [hv, h]

theorem storeB_sound {t : TypeId} {i off n : Nat} {b : Blk} {s : SV} {v : Value} {K : Blk → Prop} (hT : TOK ρ σ B tbl w) (hi : nth tbl i = some b) (hn : sizeT P t = some n) (hv : Rel tbl.length ρ σ s v) (h : storeB b off n s K) :
    ∃ c w', K c ∧ (storeVar t ⟨ρ i, (σ i).2 + off, none⟩ v).run P w = .ok () w' ∧ TOK ρ σ B (tbl.set i c) w' := by
  unfold storeB at h
  split at h
  · rename_i l k x
    split at h
    · rename_i h1 h2
      have h1 := Nat.eq_of_beq_eq_true h1
      have h2 := Nat.eq_of_beq_eq_true h2
      rw [ob_iff] at h
      have h3 := Nat.eq_of_beq_eq_true h.1
      subst h1
      simp only [Rel] at hv
      subst hv
      obtain ⟨w', hr, hT'⟩ := store_lies (P := P) (off := 0) (c := .ints true k x) (vs := x.map (Value.int k)) hT hi rfl (by simp [Value.oneCell']) rfl (fun pre hp => by
        have := hp.length
        simp only [Blk.len] at this
        refine ⟨by simp; omega, ?_⟩
        simp only [Pre, putAt]
        rw [List.take_zero, List.drop_of_length_le (by simp; omega)]; simp)
      exact ⟨_, w', h.2, run_storeVar hn (by simp [Value.cells]; omega) (by simpa [Value.cells] using hr), hT'⟩
    · exact h.elim
  · rename_i _ l _
    split at h
    · rename_i c hc
      have hrel := SV.cs_rel hc hv
      split at h
      · rename_i h1 h2 h3
        have h1 := Nat.eq_of_beq_eq_true h1
        have h3 := Nat.le_of_ble_eq_true h3
        have hlen := hrel.length
        simp at hlen
        obtain ⟨w', hr, hT'⟩ := store_lies (P := P) (off := off) (c := .cells true (l.set off c)) hT hi rfl (allOne_rel (l := [c]) (by simp [allOne, h2]) hrel) rfl (fun pre hp => by
          have hp1 := hp.length
          simp only [Blk.len] at hp1
          refine ⟨by simp; omega, ?_⟩
          rw [← putAt_one l off c (by omega)]
          exact RelL.putAt off hp hrel)
        exact ⟨_, w', h, run_storeVar hn (by omega) hr, hT'⟩
      · exact h.elim
    · rename_i c _ hc
      have hrel := SV.cs_rel hc hv
      split at h
      · rename_i h1 h2 h3
        have h1 := Nat.eq_of_beq_eq_true h1
        have h3 := Nat.le_of_ble_eq_true h3
        have hlen := hrel.length
        simp at hlen
        obtain ⟨w', hr, hT'⟩ := store_lies (P := P) (off := off) (c := .cells true (putAt l off c)) hT hi rfl (allOne_rel h2 hrel) rfl (fun pre hp => by
          have hp1 := hp.length
          simp only [Blk.len] at hp1
          exact ⟨by simp; omega, RelL.putAt off hp hrel⟩)
        exact ⟨_, w', h, run_storeVar hn (by omega) hr, hT'⟩
      · exact h.elim
    · exact h.elim
  · rename_i k l k' x
    split at h
    · rename_i hk h1
      have := of_decide_eq_true hk; subst this
      have h1 := Nat.eq_of_beq_eq_true h1
      rw [ob_iff] at h
      have h2 := of_decide_eq_true h.1
      simp only [Rel] at hv
      subst hv
      obtain ⟨w', hr, hT'⟩ := store_lies (P := P) (off := off) (c := .ints true k' (l.set off x)) (vs := [Value.int k' x]) hT hi rfl (by simp [Value.oneCell']) rfl (fun pre hp => by
        simp only [Pre] at hp ⊢
        subst hp
        refine ⟨by simp; omega, ?_⟩
        rw [putAt_one _ _ _ (by simpa using h2), List.map_set])
      exact ⟨_, w', h.2, run_storeVar hn (by simp [Value.cells]; omega) (by simpa [Value.cells] using hr), hT'⟩
    · exact h.elim
  · rename_i k l k' x
    split at h
    · rename_i hk h0
      have := of_decide_eq_true hk; subst this
      have h0 := Nat.eq_of_beq_eq_true h0
      subst h0
      rw [ob_iff, ob_iff] at h
      have h1 := of_decide_eq_true h.1
      have h2 := of_decide_eq_true h.2.1
      simp only [Rel] at hv
      subst hv
      obtain ⟨w', hr, hT'⟩ := store_lies (P := P) (off := 0) (c := .ints true k' x) (vs := x.map (Value.int k')) hT hi rfl (by simp [Value.oneCell']) rfl (fun pre hp => by
        simp only [Pre] at hp ⊢
        subst hp
        refine ⟨by simp; omega, ?_⟩
        simp only [putAt]
        rw [List.take_zero, List.drop_of_length_le (by simp; omega)]; simp)
      exact ⟨_, w', h.2.2, run_storeVar hn (by simp [Value.cells]; omega) (by simpa [Value.cells] using hr), hT'⟩
    · rename_i hk h0
      have := of_decide_eq_true hk; subst this
      rw [ob_iff] at h
      simp at h
      have h1 := h.1.1
      have h2 := h.1.2
      simp only [Rel] at hv
      subst hv
      obtain ⟨w', hr, hT'⟩ := store_lies (P := P) (off := off) (c := .ints true k' (putAt l off x)) (vs := x.map (Value.int k')) hT hi rfl (by simp [Value.oneCell']) rfl (fun pre hp => by
        simp only [Pre] at hp ⊢
        subst hp
        exact ⟨by simp; omega, (putAt_map _ _ _ _).symm⟩)
      exact ⟨_, w', h.2, run_storeVar hn (by simp [Value.cells]; omega) (by simpa [Value.cells] using hr), hT'⟩
    · exact h.elim
  · rename_i k l c
    split at h
    · rename_i x hx
      split at h
      · rename_i h1
        have h1 := Nat.eq_of_beq_eq_true h1
        rw [ob_iff] at h
        have h2 := of_decide_eq_true h.1
        simp only [Rel] at hv
        obtain ⟨cs, rfl, hv⟩ := hv
        have hcs := toInts_rel hx hv
        obtain ⟨w', hr, hT'⟩ := store_lies (P := P) (off := off) (c := .ints true k (putAt l off x)) (vs := x.map (Value.int k)) hT hi rfl (by simp [Value.oneCell']) rfl (fun pre hp => by
          simp only [Pre] at hp ⊢
          subst hp
          exact ⟨by simp; omega, (putAt_map _ _ _ _).symm⟩)
        have hsz : cs.size = n := by have := congrArg List.length hcs; simp at this; omega
        exact ⟨_, w', h.2, run_storeVar hn (by simpa [Value.cells] using hsz) (by simpa [Value.cells, hcs] using hr), hT'⟩
      · exact h.elim
    · exact h.elim
  · exact h.elim

/-! ### Rows -/
def upF {α : Type} (f : Nat → α) (r : Nat) (x : α) : Nat → α := fun q => cond (Nat.beq q r) x (f q)
def updCol (col : Col) (r : Nat) (s : SV) : Option Col := match col, s with
  | .i k f, .v (.int k' y) => match decide (k' = k) with
    | true => some (.i k (upF f r y))
    | false => none
  | .s f, .v (.string y) => some (.s (upF f r y))
  | .b f, .v (.bool y) => some (.b (upF f r y))
  | _, _ => none
def updCols (cols : List Col) (c r : Nat) : List SV → Option (List Col)
  | [] => some cols
  | s :: l => match nth cols c with
    | some col => match updCol col r s with
      | some col' => updCols (cols.set c col') (c + 1) r l
      | none => none
    | none => none
theorem updCol_at {col col' : Col} {r : Nat} {s : SV} (h : updCol col r s = some col') : ∃ x, s = .v x ∧ x.oneCell' = true ∧ col'.at r = x ∧ ∀ q, q ≠ r → col'.at q = col.at q := by
  unfold updCol at h
  split at h
  · split at h
    · rename_i hk
      have := of_decide_eq_true hk; subst this
      simp only [Option.some.injEq] at h; subst h
      exact ⟨_, rfl, rfl, by simp [Col.at, upF], fun q hq => by simp [Col.at, upF, beq_false hq]⟩
    · cases h
  · simp only [Option.some.injEq] at h; subst h
    exact ⟨_, rfl, rfl, by simp [Col.at, upF], fun q hq => by simp [Col.at, upF, beq_false hq]⟩
  · simp only [Option.some.injEq] at h; subst h
    exact ⟨_, rfl, rfl, by simp [Col.at, upF], fun q hq => by simp [Col.at, upF, beq_false hq]⟩
  · cases h
theorem rowsL_set {cols : List Col} {col col' : Col} {c r : Nat} {x : Value} (hc : cols[c]? = some col) (h1 : col'.at r = x) (h2 : ∀ q, q ≠ r → col'.at q = col.at q) (n : Nat) (hr : r < n) : rowsL (cols.set c col') n = (rowsL cols n).set (r * cols.length + c) x := by
  have hcl : c < cols.length := (List.getElem?_eq_some_iff.1 hc).1
  have hpos : 0 < cols.length := by omega
  apply List.ext_getElem?
  intro i
  have hl := rowsL_len cols n
  have hl' := rowsL_len (cols.set c col') n
  rw [List.length_set] at hl'
  by_cases hi : i < n * cols.length
  · have hd : i = i / cols.length * cols.length + i % cols.length := by rw [Nat.mul_comm]; exact (Nat.div_add_mod _ _).symm
    have hq : i / cols.length < n := Nat.div_lt_of_lt_mul (by rw [Nat.mul_comm]; exact hi)
    have hm : i % cols.length < cols.length := Nat.mod_lt _ hpos
    generalize i / cols.length = q at *
    generalize i % cols.length = m at *
    subst hd
    have g1 := rowsL_get (cols.set c col') n q m hq (by simpa using hm)
    rw [List.length_set] at g1
    have g2 := rowsL_get cols n q m hq hm
    rw [g1]
    conv => rhs; rw [List.getElem?_set, g2]
    have hrc : r * cols.length + c < (rowsL cols n).length := by
      rw [hl]
      have : r * cols.length + cols.length ≤ n * cols.length := by rw [← Nat.succ_mul]; exact Nat.mul_le_mul_right _ hr
      omega
    by_cases he : r * cols.length + c = q * cols.length + m
    · have e1 : r = q := by
        rcases Nat.lt_trichotomy r q with h | h | h
        · exfalso
          have : r * cols.length + cols.length ≤ q * cols.length := by rw [← Nat.succ_mul]; exact Nat.mul_le_mul_right _ h
          omega
        · exact h
        · exfalso
          have : q * cols.length + cols.length ≤ r * cols.length := by rw [← Nat.succ_mul]; exact Nat.mul_le_mul_right _ h
          omega
      subst e1
      have e2 : c = m := by omega
      subst e2
      rw [if_pos rfl, if_pos hrc, List.getElem?_set_self hcl]
      simp [h1]
    · rw [if_neg he]
      by_cases hcm : c = m
      · subst hcm
        rw [List.getElem?_set_self hcl, hc]
        have : q ≠ r := fun hx => he (by rw [hx])
        simp [h2 q this]
      · rw [List.getElem?_set_ne hcm]
  · rw [List.getElem?_eq_none (by omega), List.getElem?_eq_none (by rw [List.length_set]; omega)]
theorem updCols_spec {r n : Nat} (hr : r < n) {k : Nat} {ρ : Nat → Nat} {σ : Nat → Nat × Nat} : ∀ {l : List SV} {cols cols' : List Col} {c : Nat} {vs : List Value}, updCols cols c r l = some cols' → RelL k ρ σ l vs →
    cols'.length = cols.length ∧ (l ≠ [] → c + l.length ≤ cols.length) ∧ (∀ v ∈ vs, v.oneCell' = true) ∧ (c + l.length ≤ cols.length → rowsL cols' n = putAt (rowsL cols n) (r * cols.length + c) vs)
  | [], cols, cols', c, vs, h, hv => by
    simp only [updCols, Option.some.injEq] at h; subst h
    simp only [RelL] at hv; subst hv
    exact ⟨rfl, fun h => absurd rfl h, by simp, fun _ => by rw [putAt_nil]⟩
  | s :: l, cols, cols', c, vs, h, hv => by
    simp only [updCols] at h
    split at h
    · rename_i col hc
      rw [nth_eq] at hc
      split at h
      · rename_i col' hcol
        obtain ⟨x, rfl, hx1, hx2, hx3⟩ := updCol_at hcol
        simp only [RelL, Rel] at hv
        obtain ⟨b, m, rfl, rfl, hm⟩ := hv
        have hcl : c < cols.length := (List.getElem?_eq_some_iff.1 hc).1
        obtain ⟨i1, i2, i3, i4⟩ := updCols_spec hr h hm
        rw [List.length_set] at i1 i2 i4
        refine ⟨i1, fun _ => ?_, fun v hv => ?_, fun hle => ?_⟩
        · cases l with
          | nil => simp; omega
          | cons a l => have := i2 (by simp); simp only [List.length_cons] at this ⊢; omega
        · rcases List.mem_cons.1 hv with rfl | hv
          · exact hx1
          · exact i3 v hv
        · simp only [List.length_cons] at hle
          have hrow : r * cols.length + cols.length ≤ n * cols.length := by rw [← Nat.succ_mul]; exact Nat.mul_le_mul_right _ hr
          have hll := rowsL_len cols n
          rw [i4 (by omega), rowsL_set hc hx2 hx3 n hr, putAt_cons _ _ _ _ (by omega), if_pos (by omega), Nat.add_assoc]
      · cases h
    · cases h
/-- A store by an address. -/
def storeP (P : Program) (tbl : List Blk) (t : TypeId) (p s : SV) (K : Nat → Blk → Prop) : Prop :=
  match p, sizeT P t with
  | .ptr i off, some n => match nth tbl i with
    | some (.tab true m cols) => match Nat.ble 1 cols.length, s.cs with
      | true, some l => match updCols cols (off % cols.length) (off / cols.length) l, Nat.beq l.length n, Nat.ble 1 n with
        | some cols', true, true => ob (decide (off / cols.length < m)) (K i (.tab true m cols'))
        | _, _, _ => False
      | _, _ => False
    | some b => storeB b off n s fun c => K i c
    | none => False
  | .pix i off sz ix c, some n => match nth tbl i with
    | some (.tab true m cols) => match Nat.beq sz cols.length && Nat.ble 1 sz, s.cs with
      | true, some l => match updCols cols c (off / sz + ix) l, Nat.beq l.length n, Nat.ble 1 n with
        | some cols', true, true => ob (Nat.beq (off % sz) 0 && decide (off / sz + ix < m)) (K i (.tab true m cols'))
        | _, _, _ => False
      | _, _ => False
    | some b => storeB b (off + ix * sz + c) n s fun c => K i c
    | none => False
  | _, _ => False
theorem tab_store {t : TypeId} {i n m r c : Nat} {cols cols' : List Col} {l : List SV} {v : Value} {w : World} (hT : TOK ρ σ B tbl w) (hi : nth tbl i = some (.tab true m cols)) (hn : sizeT P t = some n) (hv : RelL tbl.length ρ σ l v.cells.toList) (hl : l.length = n) (h1 : 1 ≤ n) (hu : updCols cols c r l = some cols') (hr : r < m) :
    ∃ w', (storeVar t ⟨ρ i, (σ i).2 + (r * cols.length + c), none⟩ v).run P w = .ok () w' ∧ TOK ρ σ B (tbl.set i (.tab true m cols')) w' := by
  obtain ⟨i1, i2, i3, i4⟩ := updCols_spec hr hu hv
  have hne : l ≠ [] := by intro h; subst h; simp at hl; omega
  have hle := i2 hne
  have hrow : r * cols.length + cols.length ≤ m * cols.length := by rw [← Nat.succ_mul]; exact Nat.mul_le_mul_right _ hr
  have hvl := hv.length
  obtain ⟨w', hr', hT'⟩ := store_lies (P := P) (off := r * cols.length + c) (c := .tab true m cols') (vs := v.cells.toList) hT hi rfl i3 rfl (fun pre hp => by
    simp only [Pre] at hp
    subst hp
    refine ⟨by rw [rowsL_len]; omega, ?_⟩
    simp only [Pre]
    exact (i4 hle).symm)
  exact ⟨w', run_storeVar hn (by simp at hvl; omega) hr', hT'⟩
theorem storeP_sound {t : TypeId} {p s : SV} {vp v : Value} {K : Nat → Blk → Prop} {w : World} (hT : TOK ρ σ B tbl w) (hp : Rel tbl.length ρ σ p vp) (hv : Rel tbl.length ρ σ s v) (h : storeP P tbl t p s K) :
    ∃ i c w' a, vp = .pointer (some a) ∧ K i c ∧ (storeVar t a v).run P w = .ok () w' ∧ TOK ρ σ B (tbl.set i c) w' := by
  unfold storeP at h
  split at h
  · rename_i i off n hn
    simp only [Rel] at hp
    split at h
    · rename_i m cols hb
      split at h
      · rename_i l hpos hl
        split at h
        · rename_i cols' hu h1 h2
          rw [ob_iff] at h
          have h3 := of_decide_eq_true h.1
          obtain ⟨w', hr, hT'⟩ := tab_store (P := P) hT hb hn (SV.cs_rel hl hv) (Nat.eq_of_beq_eq_true h1) (Nat.le_of_ble_eq_true h2) hu h3
          have e : off / cols.length * cols.length + off % cols.length = off := by rw [Nat.mul_comm]; exact Nat.div_add_mod off cols.length
          rw [e] at hr
          exact ⟨_, _, w', _, hp.2, h.2, hr, hT'⟩
        · exact h.elim
      · exact h.elim
    · rename_i b _ hb
      obtain ⟨c, w', hK, hr, hT'⟩ := storeB_sound (P := P) hT hb hn hv h
      exact ⟨_, c, w', _, hp.2, hK, hr, hT'⟩
    · exact h.elim
  · rename_i i off sz ix c n hn
    simp only [Rel] at hp
    split at h
    · rename_i m cols hb
      split at h
      · rename_i l hpos hl
        rw [Bool.and_eq_true] at hpos
        have hsz := Nat.eq_of_beq_eq_true hpos.1
        split at h
        · rename_i cols' hu h1 h2
          rw [ob_iff, Bool.and_eq_true] at h
          obtain ⟨⟨h0, h3⟩, hK⟩ := h
          have h3 := of_decide_eq_true h3
          have h0 := Nat.eq_of_beq_eq_true h0
          obtain ⟨w', hr, hT'⟩ := tab_store (P := P) hT hb hn (SV.cs_rel hl hv) (Nat.eq_of_beq_eq_true h1) (Nat.le_of_ble_eq_true h2) hu h3
          rw [← hsz, ← pix_off h0] at hr
          exact ⟨_, _, w', _, hp.2, hK, hr, hT'⟩
        · exact h.elim
      · exact h.elim
    · rename_i b _ hb
      obtain ⟨c, w', hK, hr, hT'⟩ := storeB_sound (P := P) hT hb hn hv h
      exact ⟨_, c, w', _, hp.2, hK, hr, hT'⟩
    · exact h.elim
  · exact h.elim

/-! ### New memory -/
def kindT (P : Program) (t : TypeId) : Option IntKind := match P.underlying t with
  | some (.int k) => some k
  | _ => none
/-- So many zeros of a type. -/
def zeros (P : Program) (e : TypeId) (n : Nat) : Option Blk := match kindT P e, zeroT P e, sizeT P e with
  | some k, some [.int k' 0], some 1 => match decide (k' = k) with
    | true => some (.ints true k (List.replicate n 0))
    | false => none
  | none, some z, some sz => match Nat.beq sz z.length with
    | true => some (.cells true ((List.replicate n (z.map SV.v)).flatten))
    | false => none
  | _, _, _ => none

def bytesL (s : ByteArray) : List Int := s.data.toList.map fun b => (b.toNat : Int)

mutual
/-- Nothing in it refers to memory. -/
def plainS : SV → Bool
  | .v _ | .ia _ _ | .unk => true
  | .agg l => plainL l
  | _ => false
def plainL : List SV → Bool
  | [] => true
  | a :: l => plainS a && plainL l
end
mutual
theorem plainS_refs : ∀ (s : SV), plainS s = true → ∀ j, s.refs j = false
  | .v _, _, _ => rfl
  | .ia _ _, _, _ => rfl
  | .unk, _, _ => rfl
  | .agg l, h, j => by simp only [plainS] at h; simp only [SV.refs]; exact plainL_refs l h j
  | .ptr _ _, h, _ | .slc _ _ _ _ _, h, _ | .tup _, h, _ | .fn _ _ _, h, _ | .mp _, h, _ | .ifc _ _, h, _ | .pix _ _ _ _ _, h, _ => by simp [plainS] at h
theorem plainL_refs : ∀ (l : List SV), plainL l = true → ∀ j, SV.refsL j l = false
  | [], _, _ => rfl
  | a :: l, h, j => by
    simp only [plainL, Bool.and_eq_true] at h
    simp only [SV.refsL, plainS_refs a h.1 j, plainL_refs l h.2 j, Bool.or_self]
end
/-- Does a type whose zero is this hold numbers, texts and truths alone? -/
def plainZ : SV → Bool
  | .v (.int _ _) | .v (.bool _) | .v (.string _) => true
  | .agg l => plainZL l
  | _ => false
  where plainZL : List SV → Bool
  | [] => true
  | .v (.int _ _) :: l | .v (.bool _) :: l | .v (.string _) :: l => plainZL l
  | _ => false

/-- One operation that makes or writes memory: its value, the table behind it. -/
def eop (P : Program) (st : St) (o : Op) (K : SV → List Blk → Prop) : Prop :=
  match o with
  | .alloc t => match zeroT P t with
    | some z => K (.ptr st.tbl.length 0) (st.tbl ++ [.cells true (z.map .v)])
    | none => False
  | .box _ x => ev st.env x fun s => match boxBlk s with
    | some b => K (.ptr st.tbl.length 0) (st.tbl ++ [b])
    | none => False
  | .store t x y => ev st.env x fun p => ev st.env y fun s => storeP P st.tbl t p s fun i c => K (.v undef) (st.tbl.set i c)
  | .makeMap t none => match P.underlying t with
    | some (.map kt et) => match P.underlying kt, zeroS P et with
      | some (.int k), some z => K (.mp st.tbl.length) (st.tbl ++ [.map true (plainZ z) (.i k []) fun _ => z])
      | some .string, some z => K (.mp st.tbl.length) (st.tbl ++ [.map true (plainZ z) (.s []) fun _ => z])
      | _, _ => False
    | _ => False
  | .mapUpdate t m k x => ev st.env m fun sm => ev st.env k fun sk => ev st.env x fun s => match sm, P.underlying t with
    | .mp i, some (.map kt _) => match nth st.tbl i with
      | some (.map true pl ks g) => match kyOf P kt ks sk with
        | some y => match pl, plainS s with
          | true, false => False
          | _, _ => K (.v undef) (st.tbl.set i (.map true pl (insK ks y) fun v => mixS (keq y.val v) s (g v)))
        | none => False
      | _ => False
    | _, _ => False
  | .makeSlice t l c => ev st.env l fun sl => ev st.env c fun sc => match sl, sc, P.underlying t with
    | .v (.int _ l), .v (.int _ c), some (.slice e) => match P.info? e with
      | some i => match zeros P e c.toNat with
        | some b => ob (decide (0 ≤ l) && decide (l ≤ c) && decide (i.bytes * c ≤ 281474976710656) && decide (c ≤ 9223372036854775807))
            (K (.slc st.tbl.length 0 l.toNat c.toNat i.size) (st.tbl ++ [b]))
        | none => False
      | none => False
    | _, _, _ => False
  | .buildSlice t len parts => match evsN st.env parts.toList, P.underlying t with
    | some ps, some (.slice e) => match sizeT P e, zeroT P e, Nat.ble len 1000 with
      | some (sz + 1), some z, true => match Nat.ble (sz + 1) 1000, Nat.beq z.length (sz + 1), fillS (fun i => some (i * (sz + 1), sz + 1)) ((List.replicate len (z.map SV.v)).flatten) ps with
        | true, true, some c => K (.slc st.tbl.length 0 len len (sz + 1)) (st.tbl ++ [.cells true c])
        | _, _, _ => False
      | _, _, _ => False
    | _, _ => False
  | .convert src dst x => ev st.env x fun s => match s, P.underlying src, P.underlying dst with
    | .v (.string s), some .string, some (.slice e) => match P.underlying e with
      | some (.int .u8) => K (.slc st.tbl.length 0 s.size s.size 1) (st.tbl ++ [.ints true .u8 (bytesL s)])
      | _ => False
    | _, _, _ => False
  | _ => False


/-- It makes new memory, no more. -/
def growsO (o : Oper) : Bool := match o.op with
  | .alloc _ | .box _ _ | .makeMap _ _ | .makeSlice _ _ _ | .buildSlice _ _ _ | .convert _ _ _ => true
  | _ => false
/-- The frame and the world behind such an operation. -/
def EopPost (B : Base) (st : St) (a : Act) (o : Oper) (K : SV → List Blk → Prop) (ρ : Nat → Nat) (σ : Nat → Nat × Nat) (w : World) (a' : Act) (w' : World) : Prop :=
  ∃ s v tbl' ρ' σ', a' = a.put o.dst v ∧ K s tbl' ∧ Rel tbl'.length ρ' σ' s v ∧ st.tbl.length ≤ tbl'.length ∧ (∀ i, i < st.tbl.length → ρ' i = ρ i ∧ σ' i = σ i) ∧ TOK ρ' σ' B tbl' w' ∧ (growsO o = true → Fr [] w w')

theorem fresh_post {st : St} {a : Act} {o : Oper} {K : SV → List Blk → Prop} {b : Blk} {cs : Array Value} {T : TypeId} {s : SV} {v : Value} {w : World} (hT : TOK ρ σ B st.tbl w) (k : Nat) (hp : Pre st.tbl.length ρ σ b (cs.toList.take k)) (hK : K s (st.tbl ++ [b]))
    (hs : Rel (st.tbl.length + 1) (upd ρ st.tbl.length w.heap.size) (upd σ st.tbl.length (cs.size, 0)) s v) : EopPost B st a o K ρ σ w (a.put o.dst v) (w.alloc (.cells cs T)) :=
  ⟨s, v, _, _, _, rfl, hK, by simpa using hs, by simp, fun i hi => ⟨upd_ne _ _ (by omega), upd_ne _ _ (by omega)⟩, hT.alloc cs T k hp, fun _ => (Fr.refl _ _).alloc _⟩

theorem madeCells_flat (z : Array Value) (n : Nat) : (madeCells z (n * z.size)).toList = (List.replicate n z.toList).flatten := by
  apply List.ext_getElem?
  intro j
  have hl : (List.replicate n z.toList).flatten.length = n * z.size := by simp
  by_cases hj : j < n * z.size
  · have hz0 : 0 < z.size := by rcases Nat.eq_zero_or_pos z.size with h | h; (rw [h] at hj; simp at hj); exact h
    have hmod : j % z.size < z.size := Nat.mod_lt _ hz0
    have e1 : (madeCells z (n * z.size)).toList[j]? = some z[j % z.size] := by simp [madeCells, hj, hmod]
    rw [e1]
    have gen : ∀ (n j : Nat), j < n * z.size → (List.replicate n z.toList).flatten[j]? = some (z[j % z.size]'(Nat.mod_lt _ hz0)) := by
      intro n
      induction n with
      | zero => intro j hj; simp at hj
      | succ n ih =>
        intro j hj
        rw [List.replicate_succ, List.flatten_cons]
        by_cases h : j < z.size
        · rw [List.getElem?_append_left (by simpa using h)]
          have := Nat.mod_eq_of_lt h
          simp [this, h]
        · rw [List.getElem?_append_right (by simpa using (by omega : z.size ≤ j))]
          have h1 : j - z.size < n * z.size := by rw [Nat.add_mul] at hj; omega
          have := ih (j - z.size) h1
          have e : (j - z.size) % z.size = j % z.size := by
            conv => rhs; rw [show j = (j - z.size) + z.size by omega, Nat.add_mod_right]
          simp only [e] at this
          simpa using this
    exact (gen n j hj).symm
  · rw [List.getElem?_eq_none (by simp [madeCells]; omega), List.getElem?_eq_none (by omega)]

theorem fill_size {pl : Nat → Option (Nat × Nat)} : ∀ {parts : List (Nat × Value)} {cs r : Array Value}, Instr.fill pl cs parts = some r → r.size = cs.size
  | [], cs, r, h => by simp [Instr.fill] at h; rw [h]
  | (i, v) :: l, cs, r, h => by
    unfold Instr.fill at h
    split at h
    · cases h
    · split at h
      · cases h
      · rw [fill_size h, ← Array.foldl_toList]
        have gen : ∀ (q : List (Value × Nat)) (o : Nat) (cs : Array Value), (q.foldl (fun cs (x : Value × Nat) => cs.setIfInBounds (o + x.2) x.1) cs).size = cs.size := by
          intro q o
          induction q with
          | nil => intro cs; rfl
          | cons x q ih => intro cs; rw [List.foldl_cons, ih]; simp
        exact gen _ _ cs

theorem zeros_pre {e : TypeId} {n : Nat} {b : Blk} {i : TypeInfo} (hi : P.info? e = some i) (h : zeros P e n = some b) : ∃ z, i.zero = some z ∧ Pre tbl.length ρ σ b (madeCells z.cells (n * i.size)).toList ∧ b.wr = true := by
  have hsz : ∀ m, sizeT P e = some m → i.size = m := fun m hm => by unfold sizeT at hm; rw [hi] at hm; simpa using hm
  unfold zeros at h
  have hzt : ∀ z, zeroT P e = some z → ∃ v, i.zero = some v ∧ v.cells.toList = z := fun z hz => by
    unfold zeroT at hz
    rw [hi] at hz
    simp only at hz
    split at hz
    · rename_i v hv; simp at hz; exact ⟨v, hv, hz⟩
    · cases hz
  have hmade := fun z => madeCells_flat z n
  split at h
  · rename_i k k' hk hz h1
    obtain ⟨v, hv1, hv2⟩ := hzt _ hz
    split at h
    · rename_i hkk
      have := of_decide_eq_true hkk; subst this
      simp at h; subst h
      have e1 : i.size = v.cells.size := by rw [hsz _ h1, ← Array.length_toList, hv2]; rfl
      refine ⟨v, hv1, ?_, rfl⟩
      rw [e1, hmade, hv2]
      simp only [Pre, List.map_replicate]
      induction n with
      | zero => rfl
      | succ n ih => simp [List.replicate_succ]
    · cases h
  · rename_i z sz hk hz h1
    obtain ⟨v, hv1, hv2⟩ := hzt _ hz
    split at h
    · rename_i hb
      have hb := Nat.eq_of_beq_eq_true hb
      simp at h; subst h
      have e1 : i.size = v.cells.size := by rw [hsz _ h1, ← Array.length_toList, hv2]; exact hb
      refine ⟨v, hv1, ?_, rfl⟩
      rw [e1, hmade, hv2]
      simp only [Pre]
      have : (List.replicate n (z.map SV.v)).flatten = ((List.replicate n z).flatten).map SV.v := by
        rw [List.map_flatten, List.map_replicate]
      rw [this]
      exact RelL.vs _
    · cases h
  · cases h

theorem eop_sound {st : St} {a : Act} {o : Oper} {K : SV → List Blk → Prop} {Q : Exit → Act → World → Prop} {w : World} (hE : EOK ds st.tbl.length ρ σ st.env st.nt a) (hT : TOK ρ σ B st.tbl w) (h : eop P st o.op K) :
    o.wp P a w (EopPost B st a o K ρ σ w) Q := by
  unfold eop at h
  split at h <;> rename_i ho
  · rename_i t
    split at h
    · rename_i z hz
      obtain ⟨v, hv, rfl⟩ := zeroT_val hz
      unfold Oper.wp
      have : (execOp a.eval o).run P w = .ok (.value (.pointer (some ⟨w.heap.size, 0, none⟩))) (w.alloc (.cells v.cells t)) := by
        simp [execOp, ho, Instr.alloc, hv, newVar, newRow]
      rw [this]
      exact fresh_post hT v.cells.size (by rw [List.take_of_length_le (by simp)]; exact RelL.vs _) h (by simp only [Rel]; exact ⟨by omega, by simp⟩)
    · exact h.elim
  · rename_i t x
    obtain ⟨s, hs, h⟩ := ev_spec h
    split at h
    · rename_i b hb
      obtain ⟨hp, hw⟩ := boxBlk_pre hb (evo_sound hE hs)
      unfold Oper.wp
      have : (execOp a.eval o).run P w = .ok (.value (.pointer (some ⟨w.heap.size, 0, none⟩))) (w.alloc (.cells (a.eval x).cells t)) := by
        simp [execOp, ho, Instr.box, newVar, newRow]
      rw [this]
      exact fresh_post hT (a.eval x).cells.size (by rw [List.take_of_length_le (by simp)]; exact hp) h (by simp only [Rel]; exact ⟨by omega, by simp⟩)
    · exact h.elim
  · rename_i t x y
    obtain ⟨p, hp, h⟩ := ev_spec h
    obtain ⟨s, hs, h⟩ := ev_spec h
    obtain ⟨i, c, w', ad, hpr, hK, hr, hT'⟩ := storeP_sound (P := P) hT (evo_sound hE hp) (evo_sound hE hs) h
    unfold Oper.wp
    have : (execOp a.eval o).run P w = .ok .skip w' := by
      simp [execOp, ho, Instr.storeAt, hpr, Instr.sureAddr, hr]
    rw [this]
    exact ⟨.v undef, undef, _, ρ, σ, rfl, hK, by simp [Rel], by simp, fun i _ => ⟨rfl, rfl⟩, hT', fun hg => by simp [growsO, ho] at hg⟩
  · rename_i t
    split at h
    · rename_i kt et hu
      have fin : ∀ (ks : KS) (pl : Bool) (g : Value → SV), ks.vals = [] → K (.mp st.tbl.length) (st.tbl ++ [.map true pl ks g]) → o.wp P a w (EopPost B st a o K ρ σ w) Q := fun ks pl g hk hK => by
        unfold Oper.wp
        have : (execOp a.eval o).run P w = .ok (.value (.map (some w.heap.size))) (w.alloc (.map #[] 0)) := by
          simp [execOp, ho, Instr.makeMap]
        rw [this]
        exact ⟨_, _, _, _, σ, rfl, hK, by simp only [Rel]; exact ⟨by simp, by simp⟩, by simp, fun i hi => ⟨upd_ne _ _ (by omega), rfl⟩, hT.allocMap hk, fun _ => (Fr.refl _ _).alloc _⟩
      split at h
      · exact fin _ _ _ rfl h
      · exact fin _ _ _ rfl h
      · exact h.elim
    · exact h.elim
  · rename_i t m k x
    obtain ⟨sm, hm, h1⟩ := ev_spec h
    obtain ⟨sk, hk, h2⟩ := ev_spec h1
    obtain ⟨s, hs, h3⟩ := ev_spec h2
    clear h h1 h2
    revert h3
    intro h
    split at h
    · rename_i i kt et hu
      split at h
      · rename_i pl ks g hb
        rw [nth_eq] at hb
        split at h
        · rename_i y hy
          obtain ⟨d, hd, hfit, rfl⟩ := kyOf_fit hy
          have hmr := evo_sound hE hm
          have hkr := evo_sound hE hk
          have hsr := evo_sound hE hs
          simp only [Rel] at hmr hkr
          obtain ⟨o1, ho1, ho2⟩ := hT.mok.is i _ hb rfl
          have fin : (pl = true → ∀ j, s.refs j = false) → K (.v undef) (st.tbl.set i (.map true pl (insK ks y) fun v => mixS (keq y.val v) s (g v))) → o.wp P a w (EopPost B st a o K ρ σ w) Q := fun hp hK => by
            obtain ⟨o', h1, h2⟩ := MapIs.put (P := P) hfit hu hd ho2 hsr hp
            unfold Oper.wp
            have : (execOp a.eval o).run P w = .ok .skip { w with heap := w.heap.setIfInBounds (ρ i) o' } := by
              simp [execOp, ho, hmr.2, hkr, h2 w (ρ i) ho1]
            rw [this]
            exact ⟨.v undef, undef, _, ρ, σ, rfl, hK, by simp [Rel], by simp, fun i _ => ⟨rfl, rfl⟩, hT.putMap hb rfl ho1 rfl h1, fun hg => by simp [growsO, ho] at hg⟩
          split at h
          · exact h.elim
          · rename_i hne
            refine fin (fun hp j => ?_) h
            subst hp
            cases hps : plainS s with
            | true => exact plainS_refs s hps j
            | false => exact (hne rfl hps).elim
        · exact h.elim
      · exact h.elim
    · exact h.elim
  · rename_i t lx cx
    obtain ⟨sl, hl, h⟩ := ev_spec h
    obtain ⟨sc, hc, h⟩ := ev_spec h
    split at h
    · rename_i kl l kc c e hu _
      split at h
      · rename_i i hi
        split at h
        · rename_i b hb
          rw [ob_iff] at h
          obtain ⟨h0, hK⟩ := h
          simp at h0
          have hl := evo_sound hE hl
          have hc := evo_sound hE hc
          simp only [Rel] at hl hc
          obtain ⟨z, hz, hpre, hw⟩ := zeros_pre (ρ := ρ) (σ := σ) (tbl := st.tbl) hi hb
          unfold Oper.wp
          have : (execOp a.eval o).run P w = .ok (.value (.slice (some ⟨w.heap.size, 0, none⟩) l.toNat c.toNat)) (w.alloc (.cells (madeCells z.cells (c.toNat * i.size)) e)) := by
            simp [execOp, ho, hl, hc, run_make (P := P) w t e i z hu hi hz kl kc l c h0.1.1.1 h0.1.1.2 h0.1.2 h0.2]
          rw [this]
          refine fresh_post hT (madeCells z.cells (c.toNat * i.size)).size (by rw [List.take_of_length_le (by simp)]; exact hpre) hK ?_
          simp only [Rel]
          exact ⟨by omega, by omega, .inr ⟨0, c.toNat, by simp, by omega, .inl rfl, by simp [size_madeCells]⟩⟩
        · exact h.elim
      · exact h.elim
    · exact h.elim
  · rename_i t len parts
    split at h
    · rename_i ps e hps hu
      split at h
      · rename_i sz z hsz hz hlen
        have hlen := Nat.le_of_ble_eq_true hlen
        obtain ⟨v, hv, rfl⟩ := zeroT_val hz
        split at h
        · rename_i c h1 h2 hc
          have h1 := Nat.le_of_ble_eq_true h1
          have h2 := Nat.eq_of_beq_eq_true h2
          simp at h2
          have hparts := evsN_sound hE hps
          have hsmall : len * (sz + 1) ≤ 1000 * 1000 := Nat.mul_le_mul hlen h1
          have hmade : ((Array.range (len * (sz + 1))).map (fun i => v.cells[i % v.cells.size]!)).toList = (List.replicate len v.cells.toList).flatten := by
            have := madeCells_flat v.cells len
            rw [h2] at this
            rw [← this]; unfold madeCells; rw [h2]
          have hrep : (List.replicate len (v.cells.toList.map SV.v)).flatten = ((List.replicate len v.cells.toList).flatten).map SV.v := by
            rw [List.map_flatten, List.map_replicate]
          rw [hrep] at hc
          obtain ⟨r, hr, hrel⟩ := fillS_sound (n := st.tbl.length) (ρ := ρ) (σ := σ) (cs := (Array.range (len * (sz + 1))).map (fun i => v.cells[i % v.cells.size]!)) hparts (by rw [hmade]; exact RelL.vs _) hc
          have hrs : r.size = len * (sz + 1) := by
            have := fill_size hr
            simpa using this
          unfold Oper.wp
          have : (execOp a.eval o).run P w = .ok (.value (.slice (some ⟨w.heap.size, 0, none⟩) len len)) (w.alloc (.cells r e)) := by
            have hbig : ¬ (16777216 < len * (sz + 1)) := by omega
            have hr' : Instr.fill (fun i => some (i * (sz + 1), sz + 1)) ((Array.range (len * (sz + 1))).map (fun i => v.cells[i % v.cells.size]!)) (parts.map fun (i, x) => (i, a.eval x)).toList = some r := by simpa using hr
            by_cases h0 : len * (sz + 1) = 0
            · have e0 : ∀ f : Nat → Value, (Array.range (len * (sz + 1))).map f = #[] := fun f => by rw [h0]; simp
              rw [e0] at hr'
              simp only [execOp, ho, Instr.buildSlice, Sem.run_bind, run_und w hu, Result.andThen_ok, run_sizeT w hsz]
              rw [if_neg (by simpa using hbig), if_pos h0]
              simp only [Sem.run_bind, Result.andThen_ok, Sem.run_pure, e0, hr', newRow, run_newObj]
              rfl
            · simp only [execOp, ho, Instr.buildSlice, Sem.run_bind, run_und w hu, Result.andThen_ok, run_sizeT w hsz]
              rw [if_neg (by simpa using hbig), if_neg h0]
              simp only [Sem.run_bind, hv, Result.andThen_ok, Sem.run_pure, hr', newRow, run_newObj]
              rfl
          rw [this]
          refine fresh_post hT r.size (by rw [List.take_of_length_le (by simp)]; exact hrel) h ?_
          simp only [Rel]
          exact ⟨by omega, by omega, .inr ⟨0, len, by simp, by omega, .inl rfl, by simp [hrs]⟩⟩
        · exact h.elim
      · exact h.elim
    · exact h.elim
  · rename_i src dst x
    obtain ⟨sx, hx, h⟩ := ev_spec h
    have hx := evo_sound hE hx
    split at h
    · rename_i s e hs hd _
      split at h
      · rename_i he
        simp only [Rel] at hx
        unfold Oper.wp
        have : (execOp a.eval o).run P w = .ok (.value (.slice (some ⟨w.heap.size, 0, none⟩) s.size (grownCap w s.size 0 e))) (Lib.bytesWorld w e s) := by
          simp [execOp, ho, hx, Lib.run_convert_string_bytes w src dst e s hs hd he]
        rw [this]
        have hcs : (Lib.bytesCells w e s).size = s.size + (grownCap w s.size 0 e - s.size) := by
          simp [Lib.bytesCells]
        have hge := grownCap_ge w s.size 0 e
        have hag : ∀ i, i < st.tbl.length → upd ρ st.tbl.length w.heap.size i = ρ i ∧ upd σ st.tbl.length ((Lib.bytesCells w e s).size, 0) i = σ i := fun i hi => ⟨upd_ne _ _ (by omega), upd_ne _ _ (by omega)⟩
        refine ⟨_, _, _, upd ρ st.tbl.length w.heap.size, upd σ st.tbl.length ((Lib.bytesCells w e s).size, 0), rfl, h, ?_, by simp, hag, ?_, fun _ => ⟨rfl, rfl, rfl, by rw [Lib.bytesWorld_size]; omega, fun k hk _ => Lib.bytesWorld_at_old w e s k hk⟩⟩
        · simp only [Rel]
          exact ⟨by simp, by omega, .inr ⟨0, grownCap w s.size 0 e, by simp, hge, .inl rfl, by simp [hcs]; omega⟩⟩
        · -- as a new block, then frozen behind its end
          have h0 := (hT.drew (w.drawn + 1)).alloc (b := .ints true .u8 (bytesL s)) (Lib.bytesCells w e s) e s.size (by
            simp only [Pre, Lib.bytesCells, bytesL, Array.toList_append, Array.toList_map, List.map_map]
            rw [List.take_append_of_le_length (by simp), List.take_of_length_le (by simp)]
            rfl)
          have hsz := Lib.bytesWorld_size w e s
          have hother : ∀ k, k ≠ w.heap.size → (Lib.bytesWorld w e s).heap[k]? = (World.alloc { w with drawn := w.drawn + 1 } (.cells (Lib.bytesCells w e s) e)).heap[k]? := fun k hk => by
            rcases Nat.lt_or_ge k w.heap.size with hlt | hge
            · rw [Lib.bytesWorld_at_old w e s k hlt]; exact (RowKit.Below.heap_alloc { w with drawn := w.drawn + 1 } _ k hlt).symm
            · rw [Array.getElem?_eq_none (by rw [hsz]; omega), Array.getElem?_eq_none (by simp; omega)]
          refine ⟨hT.gl, ⟨hT.fr.os, hT.fr.tape, hT.fr.output, ?_, fun k hk hkA => ?_⟩, fun i c hi hd => ?_, h0.dom, h0.domw, h0.inj, ?_⟩
          rotate_left 3
          · refine h0.mok.turn fun i b hi hm => hother _ (fun he => ?_)
            rcases getElem?_snoc hi with ⟨hl, hi⟩ | ⟨rfl, rfl⟩
            · rw [upd_ne _ _ (by omega)] at he
              have := hT.mlt hi hm
              omega
            · cases hm
          · rw [hsz]; have := hT.fr.size; omega
          · have hlt : k < w.heap.size := Nat.lt_of_lt_of_le hk hT.fr.size
            rw [Lib.bytesWorld_at_old w e s k hlt]; exact hT.fr.block k hk hkA
          · rcases h0.lies i c hi hd with h1 | ⟨pre, hp, hl⟩
            · exact .inl h1
            · refine .inr ⟨pre, hp, ?_⟩
              by_cases hb : upd ρ st.tbl.length w.heap.size i = w.heap.size
              · obtain ⟨cs, T, fr, head, rest, g1, g2, g3, g4⟩ := hl
                rw [hb] at g1 ⊢
                have e1 : (World.alloc { w with drawn := w.drawn + 1 } (.cells (Lib.bytesCells w e s) e)).heap[w.heap.size]? = some (.cells (Lib.bytesCells w e s) e) := heap_alloc_new _ _
                rw [e1] at g1
                simp only [Option.some.injEq, Obj.cells.injEq] at g1
                obtain ⟨rfl, rfl, _⟩ := g1
                exact ⟨_, _, _, head, rest, Lib.bytesWorld_at_new w e s, g2, fun o ho => by simp; omega, g4⟩
              · exact hl.of_block (hother _ hb)
      · exact h.elim
    · exact h.elim
  · exact h.elim

end
end Go.Proofs.YtmnenigmkfnciaaGreatDoor.Sx
