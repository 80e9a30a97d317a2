/- The quiet operations of the walk by computation, on parts of values and of memory. No condition. -/
import Derived.Test.YtmnenigmkfnciaaGreatDoorSx2
namespace Go.Proofs.YtmnenigmkfnciaaGreatDoor.Sx
open Go
variable {ds : List Deferred}

def isArrT (P : Program) (t : TypeId) : Bool := match P.underlying t with
  | some (.array _ _) => true
  | _ => false
def zeroT (P : Program) (t : TypeId) : Option (List Value) := match P.info? t with
  | some i => match i.zero with
    | some z => some z.cells.toList
    | none => none
  | none => none

/-- The cells of a value. -/
def SV.cs : SV → Option (List SV)
  | .agg l => some l
  | .ia k l => some (l.map fun n => .v (.int k n))
  | .tup _ => none
  | .v (.agg _) => none
  | .v (.tuple _) => none
  | .unk => none
  | s => some [s]

def loadS (P : Program) (tbl : List Blk) (t : TypeId) (i off : Nat) (K : SV → Prop) : Prop :=
  match nth tbl i, isAggT P t, sizeT P t with
  | some (.cells _ l), some true, some n => match Nat.ble (off + n) l.length with
    | true => K (.agg ((l.drop off).take n))
    | false => False
  | some (.cells _ l), some false, _ => match nth l off with
    | some s => K s
    | none => False
  | some (.ints _ k l), some false, _ => ob (decide (off < l.length)) (K (.v (.int k (l.getD off 0))))
  | some (.ints _ k l), some true, some n => match isArrT P t, Nat.beq off 0 with
    | true, true => ob (decide (l.length = n)) (K (.ia k l))
    | true, false => ob (decide (off + n ≤ l.length)) (K (.ia k ((l.drop off).take n)))
    | false, _ => ob (decide (off + n ≤ l.length)) (K (.agg ((List.range n).map fun j => .v (.int k (l.getD (off + j) 0)))))
  | _, _, _ => False

section
variable {P : Program} {ρ : Nat → Nat} {σ : Nat → Nat × Nat} {B : Base} {tbl : List Blk} {w1 : World}

theorem Fr.blocks {w w' : World} (h : Fr [] w w') {k : Nat} (hk : k < w.heap.size) : w'.heap[k]? = w.heap[k]? := h.block k hk (by simp)

theorem TOK.still (h : TOK ρ σ B tbl w1) {w : World} (hw : Fr [] w1 w) : TOK ρ σ B tbl w :=
  ⟨h.gl, h.fr.call hw (by simp), fun i b hi hd => by
    rcases h.lies i b hi hd with h0 | ⟨pre, hp, hl⟩
    · exact .inl h0
    · exact .inr ⟨pre, hp, hl.of_block (hw.blocks hl.lt)⟩, h.dom, h.domw, h.inj, h.mok.turn fun i b hi hm => hw.blocks (h.mlt hi hm)⟩

/-- What is known of a block, once for all worlds of the class. -/
theorem TOK.pre (h : TOK ρ σ B tbl w1) {i : Nat} {b : Blk} (hi : nth tbl i = some b) (hd : b.isDead = false) : ∃ pre, Pre tbl.length ρ σ b pre ∧ (pre.length = 0 ∨ ∀ w, Fr [] w1 w → Lies w (ρ i) (σ i) pre) ∧ pre.length ≤ (σ i).1 := by
  rw [nth_eq] at hi
  rcases h.lies i b hi hd with ⟨h0, h1⟩ | ⟨pre, hp, hl⟩
  · cases b with
    | dead => cases hd
    | cells w l =>
      have : l = [] := List.length_eq_zero_iff.1 h1
      subst this
      exact ⟨[], by simp [Pre, RelL], .inl rfl, by simp⟩
    | ints w k l =>
      have : l = [] := List.length_eq_zero_iff.1 h1
      subst this
      exact ⟨[], by simp [Pre], .inl rfl, by simp⟩
    | tab w n cols =>
      have h2 := rowsL_len cols n
      have : rowsL cols n = [] := List.length_eq_zero_iff.1 (by rw [h2]; exact h1)
      exact ⟨[], by simp [Pre, this], .inl rfl, by simp⟩
    | map w pl ks g => cases hd
  · exact ⟨pre, hp, .inr fun w hw => hl.of_block (hw.blocks hl.lt), hl.pre_le⟩

theorem run_loadVar_scalar {w : World} {t : TypeId} (ha : isAggT P t = some false) {a : Addr} {x : Value} (hx : w.cell? a = some x) : (loadVar t a).run P w = .ok x w := by
  unfold loadVar
  rw [Sem.run_bind, run_isAggT w ha]
  simp [hx]
theorem run_loadVar_agg {w : World} {t : TypeId} {n : Nat} (ha : isAggT P t = some true) (hn : sizeT P t = some n) {a : Addr} {xs : Array Value} (hx : (loadCells a n).run P w = .ok xs w) : (loadVar t a).run P w = .ok (.agg xs) w := by
  unfold loadVar
  rw [Sem.run_bind, run_isAggT w ha]
  simp [run_sizeT w hn, hx]

theorem map_range_getD (k : IntKind) (l : List Int) (off n : Nat) (h : off + n ≤ l.length) :
    ((l.map (Value.int k)).drop off).take n = (List.range n).map fun j => Value.int k (l.getD (off + j) 0) := by
  apply List.ext_getElem?
  intro j
  rw [List.getElem?_take]
  by_cases hj : j < n
  · have h1 : off + j < l.length := by omega
    simp [hj, List.getElem?_drop, h1, List.getD]
  · simp [hj]

theorem loadS_sound {t : TypeId} {i off : Nat} {K : SV → Prop} (hT : TOK ρ σ B tbl w1) (h : loadS P tbl t i off K) :
    ∃ s v, K s ∧ Rel tbl.length ρ σ s v ∧ ∀ w, Fr [] w1 w → (loadVar t ⟨ρ i, (σ i).2 + off, none⟩).run P w = .ok v w := by
  unfold loadS at h
  split at h
  · rename_i wr l n hb ha hn
    obtain ⟨pre, hp, hl, _⟩ := hT.pre hb rfl
    split at h
    · rename_i hle
      have hle := Nat.le_of_ble_eq_true hle
      have hlen : pre.length = l.length := hp.length
      refine ⟨_, .agg ((pre.drop off).take n).toArray, h, ?_, fun w hw => ?_⟩
      · simp only [Rel]; exact ⟨_, rfl, (RelL.drop off hp).take n⟩
      · refine run_loadVar_agg ha hn ?_
        rcases hl with hl | hl
        · have h0 : n = 0 := by omega
          subst h0; simp [loadCells, loadCellsFrom]
        · exact run_loadCells_lies (hl w hw) off n (by omega)
    · exact h.elim
  · rename_i wr l hb ha
    obtain ⟨pre, hp, hl, _⟩ := hT.pre hb rfl
    split at h
    · rename_i s hs
      rw [nth_eq] at hs
      obtain ⟨x, hx, hr⟩ := RelL.get hp hs
      refine ⟨s, x, h, hr, fun w hw => ?_⟩
      rcases hl with hl | hl
      · have := (List.getElem?_eq_some_iff.1 hx).1; omega
      · exact run_loadVar_scalar ha ((hl w hw).cell hx)
    · exact h.elim
  · rename_i wr k l hb ha
    obtain ⟨pre, hp, hl, _⟩ := hT.pre hb rfl
    rw [ob_iff] at h
    have h1 := of_decide_eq_true h.1
    simp only [Pre] at hp
    subst hp
    refine ⟨_, _, h.2, rfl, fun w hw => ?_⟩
    rcases hl with hl | hl
    · simp at hl; subst hl; simp at h1
    · refine run_loadVar_scalar ha ((hl w hw).cell ?_)
      simp [h1, List.getD]
  · rename_i wr k l n hb ha hn
    obtain ⟨pre, hp, hl, _⟩ := hT.pre hb rfl
    simp only [Pre] at hp
    subst hp
    have hrun : off + n ≤ l.length → ∀ w, Fr [] w1 w → (loadCells ⟨ρ i, (σ i).2 + off, none⟩ n).run P w = .ok (((l.map (Value.int k)).drop off).take n).toArray w := fun hle w hw => by
      rcases hl with hl | hl
      · simp at hl; subst hl; simp at hle; obtain ⟨_, rfl⟩ := hle; simp [loadCells, loadCellsFrom]
      · exact run_loadCells_lies (hl w hw) off n (by simpa using hle)
    split at h <;> rw [ob_iff] at h <;> have h1 := of_decide_eq_true h.1
    · rename_i h0
      have h0 := Nat.eq_of_beq_eq_true h0
      subst h0
      refine ⟨_, .agg (((l.map (Value.int k)).drop 0).take n).toArray, h.2, ?_, fun w hw => run_loadVar_agg ha hn (hrun (by omega) w hw)⟩
      simp only [Rel, List.drop_zero]
      rw [List.take_of_length_le (by simp; omega)]
    · refine ⟨_, .agg (((l.map (Value.int k)).drop off).take n).toArray, h.2, ?_, fun w hw => run_loadVar_agg ha hn (hrun h1 w hw)⟩
      simp [Rel, List.map_take, List.map_drop]
    · refine ⟨_, .agg (((l.map (Value.int k)).drop off).take n).toArray, h.2, ?_, fun w hw => run_loadVar_agg ha hn (hrun h1 w hw)⟩
      simp only [Rel]
      refine ⟨_, rfl, ?_⟩
      simp only [map_range_getD k l off n h1]
      have := (RelL.vs_iff (n := tbl.length) (ρ := ρ) (σ := σ) ((List.range n).map fun j => Value.int k (l.getD (off + j) 0)) _).2 rfl
      simpa [List.map_map, Function.comp_def] using this
  · exact h.elim


/-- A whole package variable of which the contents are known. -/
def lookG (g : Nat) : List (Nat × IntKind × List Int) → Option (IntKind × List Int)
  | [] => none
  | (i, k, l) :: r => match Nat.beq i g with
    | true => some (k, l)
    | false => lookG g r
def gloadS (P : Program) (t : TypeId) (a : Addr) (K : SV → Prop) : Prop := match a with
  | ⟨g, 0, none⟩ => match lookG g Gl, isAggT P t, sizeT P t, isArrT P t with
    | some (k, l), some true, some n, true => match Nat.beq l.length n with
      | true => K (.ia k l)
      | false => False
    | _, _, _, _ => False
  | _ => False
theorem lookG_mem {g : Nat} {k : IntKind} {l : List Int} : ∀ {L : List (Nat × IntKind × List Int)}, lookG g L = some (k, l) → (g, k, l) ∈ L
  | [], h => by simp [lookG] at h
  | (i, k', l') :: r, h => by
    unfold lookG at h
    split at h
    · rename_i hb
      cases h
      rw [Nat.eq_of_beq_eq_true hb]
      exact List.mem_cons_self ..
    · exact List.mem_cons_of_mem _ (lookG_mem h)
theorem gloadS_sound {t : TypeId} {a : Addr} {K : SV → Prop} (hG : GOK [] w1) (h : gloadS P t a K) :
    ∃ s v, K s ∧ (∀ n, Rel n ρ σ s v) ∧ ∀ w, Fr [] w1 w → (loadVar t a).run P w = .ok v w := by
  unfold gloadS at h
  split at h
  case h_2 => exact h.elim
  rename_i g
  split at h
  case h_2 => exact h.elim
  rename_i k l n hg ha hn _
  split at h
  case h_2 => exact h.elim
  rename_i hb
  have hb := Nat.eq_of_beq_eq_true hb
  obtain ⟨h1, cs, T, fr, h2, h3⟩ := hG _ (lookG_mem hg)
  refine ⟨_, .agg (l.map (Value.int k)).toArray, h, fun n => rfl, fun w hw => run_loadVar_agg ha hn ?_⟩
  have := run_loadCells_list (P := P) w ⟨g, 0, none⟩ (l.map (Value.int k)) (fun j v hv => by
    rw [addr_add, Nat.zero_add]
    have h4 : w.heap[g]? = some (.cells cs T fr) := by rw [hw.blocks (Array.getElem?_eq_some_iff.1 h2).1]; exact h2
    have h5 : cs[j]? = some v := by rw [← Array.getElem?_toList, h3]; exact hv
    simp [World.cell?, h4, h5])
  rw [List.length_map, hb] at this
  exact this

/-- A load out of rows. -/
def tabS (P : Program) (n : Nat) (cols : List Col) (t : TypeId) (r c : Nat) (K : SV → Prop) : Prop :=
  match isAggT P t, sizeT P t with
  | some false, _ => match nth cols c with
    | some col => ob (decide (r < n)) (K (.v (col.at r)))
    | none => False
  | some true, some m => match Nat.ble (c + m) cols.length with
    | true => ob (decide (r < n)) (K (.agg ((((cols.drop c).take m)).map fun col => .v (col.at r))))
    | false => False
  | _, _ => False
theorem tabS_sound {i n : Nat} {wr : Bool} {cols : List Col} {t : TypeId} {r c : Nat} {K : SV → Prop} (hT : TOK ρ σ B tbl w1) (hi : nth tbl i = some (.tab wr n cols)) (h : tabS P n cols t r c K) :
    ∃ s v, K s ∧ Rel tbl.length ρ σ s v ∧ ∀ w, Fr [] w1 w → (loadVar t ⟨ρ i, (σ i).2 + (r * cols.length + c), none⟩).run P w = .ok v w := by
  obtain ⟨pre, hp, hl, _⟩ := hT.pre hi rfl
  simp only [Pre] at hp
  subst hp
  have hlen := rowsL_len cols n
  unfold tabS at h
  split at h
  · rename_i ha
    split at h
    · rename_i col hc
      rw [nth_eq] at hc
      have hc1 := (List.getElem?_eq_some_iff.1 hc).1
      rw [ob_iff] at h
      have h1 := of_decide_eq_true h.1
      refine ⟨_, _, h.2, rfl, fun w hw => ?_⟩
      have h2 := rowsL_get cols n r c h1 hc1
      rw [hc] at h2
      rcases hl with hl | hl
      · have := (List.getElem?_eq_some_iff.1 h2).1; omega
      · exact run_loadVar_scalar ha ((hl w hw).cell h2)
    · exact h.elim
  · rename_i m ha hm
    split at h
    · rename_i hle
      have hle := Nat.le_of_ble_eq_true hle
      rw [ob_iff] at h
      have h1 := of_decide_eq_true h.1
      have h3 : r * cols.length + cols.length ≤ n * cols.length := by rw [← Nat.succ_mul]; exact Nat.mul_le_mul_right _ h1
      have e : ((rowsL cols n).drop (r * cols.length + c)).take m = ((cols.drop c).take m).map fun col => col.at r := by
        apply List.ext_getElem?
        intro j
        rw [List.getElem?_take]
        by_cases hj : j < m
        · rw [if_pos hj, List.getElem?_drop, Nat.add_assoc, rowsL_get cols n r (c + j) h1 (by omega), List.getElem?_map, List.getElem?_take, if_pos hj, List.getElem?_drop]
        · rw [if_neg hj, List.getElem?_eq_none]
          simp; omega
      refine ⟨_, .agg (((rowsL cols n).drop (r * cols.length + c)).take m).toArray, h.2, ?_, fun w hw => run_loadVar_agg ha hm ?_⟩
      · simp only [Rel]
        refine ⟨_, rfl, ?_⟩
        rw [List.toList_toArray, e]
        have := RelL.vs (n := tbl.length) (ρ := ρ) (σ := σ) (((cols.drop c).take m).map fun col => col.at r)
        rw [List.map_map] at this
        exact this
      · rcases hl with hl | hl
        · have h0 : m = 0 := by omega
          subst h0; simp [loadCells, loadCellsFrom]
        · exact run_loadCells_lies (hl w hw) _ m (by omega)
    · exact h.elim
  · exact h.elim
/-- A load by an address. -/
def loadP (P : Program) (tbl : List Blk) (t : TypeId) (p : SV) (K : SV → Prop) : Prop :=
  match p with
  | .ptr i off => match nth tbl i with
    | some (.tab _ n cols) => match Nat.ble 1 cols.length with
      | true => tabS P n cols t (off / cols.length) (off % cols.length) K
      | false => False
    | _ => loadS P tbl t i off K
  | .pix i off s ix c => match nth tbl i with
    | some (.tab _ n cols) => match Nat.beq s cols.length && Nat.ble 1 s with
      | true => ob (Nat.beq (off % s) 0) (tabS P n cols t (off / s + ix) c K)
      | false => False
    | _ => loadS P tbl t i (off + ix * s + c) K
  | .v (.pointer (some a)) => gloadS P t a K
  | _ => False
theorem pix_off {off s ix c : Nat} (h : off % s = 0) : off + ix * s + c = (off / s + ix) * s + c := by
  have := Nat.div_add_mod off s
  rw [Nat.add_mul, Nat.mul_comm (off / s) s]; omega
theorem loadP_sound {t : TypeId} {p : SV} {vp : Value} {K : SV → Prop} (hT : TOK ρ σ B tbl w1) (hp : Rel tbl.length ρ σ p vp) (h : loadP P tbl t p K) :
    ∃ s v a, vp = .pointer (some a) ∧ K s ∧ Rel tbl.length ρ σ s v ∧ ∀ w, Fr [] w1 w → (loadVar t a).run P w = .ok v w := by
  unfold loadP at h
  split at h
  · rename_i i off
    simp only [Rel] at hp
    split at h
    · rename_i wr n cols hi
      split at h
      · rename_i hb
        obtain ⟨s, v, h1, h2, h3⟩ := tabS_sound (P := P) hT hi h
        have e : off / cols.length * cols.length + off % cols.length = off := by rw [Nat.mul_comm]; exact Nat.div_add_mod off cols.length
        rw [e] at h3
        exact ⟨s, v, _, hp.2, h1, h2, h3⟩
      · exact h.elim
    · obtain ⟨s, v, h1, h2, h3⟩ := loadS_sound (P := P) hT h
      exact ⟨s, v, _, hp.2, h1, h2, h3⟩
  · rename_i i off s ix c
    simp only [Rel] at hp
    split at h
    · rename_i wr n cols hi
      split at h
      · rename_i hb
        simp only [Bool.and_eq_true] at hb
        have hs := Nat.eq_of_beq_eq_true hb.1
        rw [ob_iff] at h
        obtain ⟨h0, h⟩ := h
        have h0 := Nat.eq_of_beq_eq_true h0
        obtain ⟨sv, v, h1, h2, h3⟩ := tabS_sound (P := P) hT hi h
        rw [← hs, ← pix_off h0] at h3
        exact ⟨sv, v, _, hp.2, h1, h2, h3⟩
      · exact h.elim
    · obtain ⟨sv, v, h1, h2, h3⟩ := loadS_sound (P := P) hT h
      exact ⟨sv, v, _, hp.2, h1, h2, h3⟩
  · rename_i a
    simp only [Rel] at hp
    obtain ⟨s, v, h1, h2, h3⟩ := gloadS_sound (P := P) hT.gNow h
    exact ⟨s, v, a, hp, h1, h2 _, h3⟩
  · exact h.elim

/-- A part of an aggregate. -/
def partS (P : Program) (t : TypeId) (l : List SV) (off : Nat) (K : SV → Prop) : Prop :=
  match isAggT P t, sizeT P t with
  | some true, some n => K (.agg ((l.drop off).take n))
  | some false, _ => match nth l off with
    | some s => K s
    | none => False
  | _, _ => False
theorem partS_sound {n : Nat} {t : TypeId} {l : List SV} {cs : Array Value} {off : Nat} {K : SV → Prop} (hr : RelL n ρ σ l cs.toList) (h : partS P t l off K) :
    ∃ s v, K s ∧ Rel n ρ σ s v ∧ ∀ w, (part t cs off).run P w = .ok v w := by
  unfold partS at h
  split at h
  · rename_i m ha hm
    refine ⟨_, .agg (cs.extract off (off + m)), h, ?_, fun w => ?_⟩
    · simp only [Rel]
      refine ⟨_, rfl, ?_⟩
      simpa using (hr.drop off).take m
    · unfold part; rw [Sem.run_bind, run_isAggT w ha]; simp [run_sizeT w hm]
  · rename_i ha
    split at h
    · rename_i s hs
      rw [nth_eq] at hs
      obtain ⟨x, hx, hx2⟩ := RelL.get hr hs
      refine ⟨s, x, h, hx2, fun w => ?_⟩
      unfold part; rw [Sem.run_bind, run_isAggT w ha]
      have : cs[off]? = some x := by simpa using hx
      simp [this]
    · exact h.elim
  · exact h.elim

/-- A part of an aggregate of numbers. -/
def partI (P : Program) (t : TypeId) (k : IntKind) (l : List Int) (off : Nat) (K : SV → Prop) : Prop :=
  match isAggT P t, sizeT P t with
  | some true, some n => K (.ia k ((l.drop off).take n))
  | some false, _ => ob (decide (off < l.length)) (K (.v (.int k (l.getD off 0))))
  | _, _ => False
theorem partI_sound {n : Nat} {t : TypeId} {k : IntKind} {l : List Int} {off : Nat} {K : SV → Prop} (h : partI P t k l off K) :
    ∃ s v, K s ∧ Rel n ρ σ s v ∧ ∀ w, (part t (l.map (Value.int k)).toArray off).run P w = .ok v w := by
  unfold partI at h
  split at h
  · rename_i m ha hm
    refine ⟨_, .agg ((l.map (Value.int k)).toArray.extract off (off + m)), h, ?_, fun w => ?_⟩
    · simp only [Rel]
      congr 1
      apply Array.ext'
      simp [List.map_take, List.map_drop]
    · unfold part; rw [Sem.run_bind, run_isAggT w ha]; simp [run_sizeT w hm]
  · rename_i ha
    rw [ob_iff] at h
    have h1 := of_decide_eq_true h.1
    refine ⟨_, _, h.2, rfl, fun w => ?_⟩
    unfold part; rw [Sem.run_bind, run_isAggT w ha]
    simp [h1, List.getD]
  · exact h.elim

def fieldS (P : Program) (t : TypeId) (i : Nat) (a : SV) (K : SV → Prop) : Prop :=
  match a, P.underlying t with
  | .agg l, some (.struct fs) => match nth fs.toList i with
    | some f => partS P f.type l f.offset K
    | none => False
  | .ia k l, some (.struct fs) => match nth fs.toList i with
    | some f => partI P f.type k l f.offset K
    | none => False
  | _, _ => False
theorem fieldS_sound {n : Nat} {t : TypeId} {i : Nat} {a : SV} {va : Value} {K : SV → Prop} (ha : Rel n ρ σ a va) (h : fieldS P t i a K) :
    ∃ s v, K s ∧ Rel n ρ σ s v ∧ ∀ w, (Instr.field t va i).run P w = .ok v w := by
  unfold fieldS at h
  split at h
  · rename_i l fs hu
    split at h
    · rename_i f hf
      rw [nth_eq] at hf
      simp only [Rel] at ha
      obtain ⟨cs, rfl, hr⟩ := ha
      obtain ⟨s, v, h1, h2, h3⟩ := partS_sound (P := P) hr h
      refine ⟨s, v, h1, h2, fun w => ?_⟩
      have hf' : fs[i]? = some f := by simpa using hf
      unfold Instr.field; rw [Sem.run_bind, run_und w hu]
      simp [hf', asAgg, h3 w]
    · exact h.elim
  · rename_i k l fs hu
    split at h
    · rename_i f hf
      rw [nth_eq] at hf
      simp only [Rel] at ha
      subst ha
      obtain ⟨s, v, h1, h2, h3⟩ := partI_sound (P := P) (n := n) (ρ := ρ) (σ := σ) h
      refine ⟨s, v, h1, h2, fun w => ?_⟩
      have hf' : fs[i]? = some f := by simpa using hf
      unfold Instr.field; rw [Sem.run_bind, run_und w hu]
      simp [hf', asAgg, h3 w]
    · exact h.elim
  · exact h.elim

/-- An index into an array's value, or a string. -/
def indexS (P : Program) (t : TypeId) (a b : SV) (K : SV → Prop) : Prop :=
  match a, b, P.underlying t with
  | .agg l, .v (.int _ i), some (.array len e) => match sizeT P e with
    | some sz => ob (decide (0 ≤ i) && decide (i < len)) (partS P e l (i.toNat * sz) K)
    | none => False
  | .ia k l, .v (.int _ i), some (.array len e) => match sizeT P e with
    | some sz => ob (decide (0 ≤ i) && decide (i < len)) (partI P e k l (i.toNat * sz) K)
    | none => False
  | .v (.string s), .v (.int _ i), some .string => ob (decide (0 ≤ i) && decide (i < s.size)) (K (.v (.int .u8 (bt s i))))
  | _, _, _ => False
theorem indexS_sound {n : Nat} {t : TypeId} {a b : SV} {va vb : Value} {K : SV → Prop} (ha : Rel n ρ σ a va) (hb : Rel n ρ σ b vb) (h : indexS P t a b K) :
    ∃ s v, K s ∧ Rel n ρ σ s v ∧ ∀ w, (Instr.index t va vb).run P w = .ok v w := by
  unfold indexS at h
  split at h
  · rename_i l k i len e hu
    simp only [Rel] at ha hb
    subst hb
    obtain ⟨cs, rfl, hr⟩ := ha
    split at h
    · rename_i sz hsz
      rw [ob_iff] at h
      simp at h
      obtain ⟨s, v, h1, h2, h3⟩ := partS_sound (P := P) hr h.2
      refine ⟨s, v, h1, h2, fun w => ?_⟩
      simp [Instr.index, asIntOf, run_und w hu, h.1, run_sizeT w hsz, h3 w]
    · exact h.elim
  · rename_i k l k' i len e hu
    simp only [Rel] at ha hb
    subst ha hb
    split at h
    · rename_i sz hsz
      rw [ob_iff] at h
      simp at h
      obtain ⟨s, v, h1, h2, h3⟩ := partI_sound (P := P) (n := n) (ρ := ρ) (σ := σ) h.2
      refine ⟨s, v, h1, h2, fun w => ?_⟩
      simp [Instr.index, asIntOf, run_und w hu, h.1, run_sizeT w hsz, h3 w]
    · exact h.elim
  · rename_i s k i hu
    simp only [Rel] at ha hb
    subst ha hb
    rw [ob_iff] at h
    simp at h
    refine ⟨_, _, h.2, rfl, fun w => ?_⟩
    have h0 : i.toNat < s.size := by omega
    simp [Instr.index, asIntOf, run_und w hu, h.1, h0, bt, List.getD]
    rfl
  · exact h.elim

/-- The address of a field, of an element. -/
def fieldAddrS (P : Program) (t : TypeId) (a : SV) (i : Nat) (K : SV → Prop) : Prop :=
  match a, P.underlying t with
  | .ptr b off, some (.struct fs) => match nth fs.toList i with
    | some f => match sizeT P f.type with
      | some (_ + 1) => K (.ptr b (off + f.offset))
      | _ => False
    | none => False
  | .pix b off s ix c, some (.struct fs) => match nth fs.toList i with
    | some f => match sizeT P f.type with
      | some (_ + 1) => K (.pix b off s ix (c + f.offset))
      | _ => False
    | none => False
  | _, _ => False
theorem fieldAddrS_sound {n : Nat} {t : TypeId} {i : Nat} {a : SV} {va : Value} {K : SV → Prop} (ha : Rel n ρ σ a va) (h : fieldAddrS P t a i K) :
    ∃ s v, K s ∧ Rel n ρ σ s v ∧ ∀ w, (Instr.fieldAt t va i).run P w = .ok v w := by
  unfold fieldAddrS at h
  split at h
  · rename_i b off fs hu
    split at h
    · rename_i f hf
      rw [nth_eq] at hf
      split at h
      · rename_i m hm
        simp only [Rel] at ha
        obtain ⟨hb, rfl⟩ := ha
        refine ⟨_, _, h, by simp only [Rel]; exact ⟨hb, rfl⟩, fun w => ?_⟩
        have hf' : fs[i]? = some f := by simpa using hf
        simp [Instr.fieldAt, run_und w hu, hf', Instr.sureAddr, fieldPlace, run_sizeT w hm, addr_add]
      · exact h.elim
    · exact h.elim
  · rename_i b off s ix c fs hu
    split at h
    · rename_i f hf
      rw [nth_eq] at hf
      split at h
      · rename_i m hm
        simp only [Rel] at ha
        obtain ⟨hb, rfl⟩ := ha
        refine ⟨_, _, h, by simp only [Rel]; exact ⟨hb, rfl⟩, fun w => ?_⟩
        have hf' : fs[i]? = some f := by simpa using hf
        simp [Instr.fieldAt, run_und w hu, hf', Instr.sureAddr, fieldPlace, run_sizeT w hm, addr_add, Nat.add_assoc]
      · exact h.elim
    · exact h.elim
  · exact h.elim

def indexAddrS (P : Program) (t : TypeId) (a b : SV) (K : SV → Prop) : Prop :=
  match a, b, P.underlying t with
  | .ptr j off, .v (.int _ i), some (.array len e) => match sizeT P e with
    | some sz => ob (decide (0 ≤ i) && decide (i < len)) (K (.ptr j (off + i.toNat * sz)))
    | none => False
  | .slc j off len _ s, .v (.int _ i), some (.slice e) => match sizeT P e with
    | some sz => match Nat.beq sz s with
      | true => ob (decide (0 ≤ i) && decide (i < len)) (K (.pix j off s i.toNat 0))
      | false => False
    | none => False
  | .pix j off s ix c, .v (.int _ i), some (.array len e) => match sizeT P e with
    | some sz => ob (decide (0 ≤ i) && decide (i < len)) (K (.pix j off s ix (c + i.toNat * sz)))
    | none => False
  | _, _, _ => False
theorem indexAddrS_sound {n : Nat} {t : TypeId} {a b : SV} {va vb : Value} {K : SV → Prop} (ha : Rel n ρ σ a va) (hb : Rel n ρ σ b vb) (h : indexAddrS P t a b K) :
    ∃ s v, K s ∧ Rel n ρ σ s v ∧ ∀ w, (Instr.indexAt t va vb).run P w = .ok v w := by
  unfold indexAddrS at h
  split at h
  · rename_i j off k i len e hu
    simp only [Rel] at ha hb
    subst hb
    obtain ⟨hj, rfl⟩ := ha
    split at h
    · rename_i sz hsz
      rw [ob_iff] at h
      simp at h
      refine ⟨_, _, h.2, by simp only [Rel]; exact ⟨hj, rfl⟩, fun w => ?_⟩
      simp [Instr.indexAt, asIntOf, run_und w hu, h.1, Instr.sureAddr, run_sizeT w hsz, addr_add]
    · exact h.elim
  · rename_i j off len cp s k i e hu
    simp only [Rel] at ha hb
    subst hb
    obtain ⟨hj, hlc, ha⟩ := ha
    split at h
    · rename_i sz hsz
      split at h
      · rename_i hs
        have := Nat.eq_of_beq_eq_true hs; subst this
        rw [ob_iff] at h
        simp at h
        have hpos : 0 < len := by omega
        rcases ha with ⟨_, h0, _⟩ | ⟨o, c, rfl, hc, ho, hz⟩
        · omega
        · have ho : o = off := by rcases ho with ho | ho <;> omega
          subst ho
          refine ⟨_, _, h.2, by simp only [Rel]; exact ⟨hj, rfl⟩, fun w => ?_⟩
          simp [Instr.indexAt, asIntOf, run_und w hu, h.1, run_sizeT w hsz, addr_add, Nat.add_assoc]
      · exact h.elim
    · exact h.elim
  · rename_i j off s ix c k i len e hu
    simp only [Rel] at ha hb
    subst hb
    obtain ⟨hj, rfl⟩ := ha
    split at h
    · rename_i sz hsz
      rw [ob_iff] at h
      simp at h
      refine ⟨_, _, h.2, by simp only [Rel]; exact ⟨hj, rfl⟩, fun w => ?_⟩
      simp [Instr.indexAt, asIntOf, run_und w hu, h.1, Instr.sureAddr, run_sizeT w hsz, addr_add, Nat.add_assoc]
    · exact h.elim
  · exact h.elim

end
end Go.Proofs.YtmnenigmkfnciaaGreatDoor.Sx
